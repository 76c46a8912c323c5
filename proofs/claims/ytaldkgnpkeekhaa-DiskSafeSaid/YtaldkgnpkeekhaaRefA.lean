/-
  Contracts of ref22: lists of sectors: find and set.
-/
import Derived.Test.YtaldkgnpkeekhaaSame
namespace Go.Proofs.Ytaldkgnpkeekhaa
open Go.RowKit Go.MapKept

/-- a slice value's parts -/
structure Sl where
  a : Option Addr
  n : Nat
  c : Nat
/-- a sector's cells: its number, the slice of its bytes -/
def secCells (p : Int × Sl) : List Value := [.int .i64 p.1, .slice p.2.a p.2.n p.2.c]
theorem secCells_len (p : Int × Sl) : (secCells p).length = 2 := rfl
def slOr (o : Option Sl) : Value := match o with | some s => .slice s.a s.n s.c | none => .slice none 0 0
/-- the slice v of sectors: numbers, and values of their bytes -/
abbrev SecRow (w : World) (base : Nat) (v : Value) (L : List (Int × Sl)) : Prop := w.ownsRow base 109 2 v L.length (flat secCells L)

theorem SecRow.at {w : World} {base : Nat} {v : Value} {L : List (Int × Sl)} (h : SecRow w base v L) : ∃ a cap, v = .slice a L.length cap ∧ L.length ≤ maxLen ∧ (∀ ad, a = some ad → base ≤ ad.block) ∧
    ∀ (i : Nat) (hi : i < L.length), ∃ g, a = some ⟨g, 0, none⟩ ∧ w.cell? ⟨g, i * 2, none⟩ = some (.int .i64 L[i].1) ∧ w.cell? ⟨g, i * 2 + 1, none⟩ = some (.slice L[i].2.a L[i].2.n L[i].2.c) := by
  obtain ⟨a, cap, rfl, hc, hb, hm⟩ := own_cells h
  refine ⟨a, cap, rfl, hm, hb, fun i hi => ?_⟩
  obtain ⟨g, rfl, h0⟩ := hc (i * 2) (.int .i64 L[i].1) (by have := flat_get secCells_len L i 0 hi (by omega); simpa [secCells] using this)
  obtain ⟨g', hg, h1⟩ := hc (i * 2 + 1) (.slice L[i].2.a L[i].2.n L[i].2.c) (by have := flat_get secCells_len L i 1 hi (by omega); simpa [secCells] using this)
  cases hg
  exact ⟨g, rfl, h0, h1⟩

set_option maxRecDepth 100000 in
set_option maxHeartbeats 400000 in
theorem ref22_find (w : World) (base : Nat) (v : Value) (L : List (Int × Sl)) (n : Int) (h : SecRow w base v L) :
    Calls Try.prog 44 #[v, .int .i64 n] w fun e w' => e = .returned (.tuple #[slOr (AL.get n L), .bool (AL.get n L).isSome]) ∧ w = w' := by
  obtain ⟨a, cap, rfl, hm, _, hat⟩ := h.at
  have hm' : L.length ≤ 9223372036854775807 := hm
  clear h hm
  go_enter Try.func44, Try.ntmps44
  go_wp2
  go_loop [6] (fun i => ∃ (k : Nat), k ≤ L.length ∧ i = .int .i64 k ∧ Hid (AL.get n L = AL.get n (L.drop k))) (fun i => L.length - (vInt i).toNat)
  case atStart => exact ⟨0, Nat.zero_le _, rfl, rfl⟩
  case round =>
    obtain ⟨k, hk, rfl, HE⟩ := hrel
    by_cases hlt : k < L.length
    · obtain ⟨g, rfl, h0, h1⟩ := hat k hlt
      have hd : L.drop k = L[k] :: L.drop (k + 1) := List.drop_eq_getElem_cons hlt
      by_cases e : L[k].1 = n
      · have hb : (L[k].1 == n) = true := by simp [e]
        have HG : Hid (AL.get n L = some L[k].2) := by
          unfold Hid; rw [HE.out, hd]; simp [AL.get, e]
        clear e hd hat
        go_wp2
        go_ret2
        exact ⟨by rw [HG.out]; rfl, rfl⟩
      · have hb : (L[k].1 == n) = false := by simp [e]
        have HG : Hid (AL.get n L = AL.get n (L.drop (k + 1))) := by
          unfold Hid; rw [HE.out, hd]; simp [AL.get, e]
        clear e hd hat
        go_wp2
        go_round
        case rel => exact ⟨k + 1, by omega, by go_num, HG⟩
        case measure => simp only [vInt]; omega
    · have HG : Hid (AL.get n L = none) := by
        unfold Hid; rw [HE.out, List.drop_eq_nil_of_le (by omega)]; rfl
      clear hat
      go_wp2
      go_ret2
      exact ⟨by rw [HG.out]; rfl, rfl⟩

namespace AL
variable {α : Type}
theorem put_append_lt {k : Int} {u : α} {l r : List (Int × α)} (h : ∀ p ∈ l, p.1 < k) : put k u (l ++ r) = l ++ put k u r := by
  induction l with
  | nil => rfl
  | cons p t ih =>
    obtain ⟨j, b⟩ := p
    have hj := h (j, b) (by simp)
    simp only at hj
    simp only [List.cons_append, put]
    rw [if_neg (by omega), if_neg (by omega), ih fun p hp => h p (by simp [hp])]
theorem put_snoc_gt {k : Int} {u : α} {l : List (Int × α)} {q : Int × α} (hs : Sorted (l ++ [q])) (h : ∃ p ∈ l, k ≤ p.1) : put k u (l ++ [q]) = put k u l ++ [q] := by
  induction l with
  | nil => obtain ⟨p, hp, _⟩ := h; cases hp
  | cons p t ih =>
    obtain ⟨j, b⟩ := p
    simp only [List.cons_append, put]
    split
    · rfl
    · split
      · rfl
      · rename_i h1 h2
        rw [ih hs.tail ?_, List.cons_append]
        obtain ⟨p, hp, hk⟩ := h
        rcases List.mem_cons.1 hp with hp | hp
        · subst hp; simp only at hk; omega
        · exact ⟨p, hp, hk⟩
/-- what set has done behind i elements -/
def SetInv (k : Int) (u : α) (L : List (Int × α)) (i : Nat) (dn : Bool) (O : List (Int × α)) : Prop :=
  if dn then O = put k u (L.take i) ∧ ∃ p ∈ L.take i, k ≤ p.1 else O = L.take i ∧ ∀ p ∈ L.take i, p.1 < k
theorem SetInv.start (k : Int) (u : α) (L : List (Int × α)) : SetInv k u L 0 false [] := by simp [SetInv]
theorem take_snoc {L : List (Int × α)} {i : Nat} (h : i < L.length) : L.take (i + 1) = L.take i ++ [L[i]] := List.take_succ_eq_append_getElem h
theorem sorted_take {L : List (Int × α)} (h : Sorted L) (i : Nat) : Sorted (L.take i) := List.Pairwise.sublist (List.take_sublist i L) h
theorem SetInv.later {k : Int} {u : α} {L O : List (Int × α)} {i : Nat} (hs : Sorted L) (hi : i < L.length) (h : SetInv k u L i true O) : k < L[i].1 ∧ SetInv k u L (i + 1) true (O ++ [L[i]]) := by
  simp only [SetInv, if_true] at h ⊢
  obtain ⟨rfl, p, hp, hk⟩ := h
  have h1 : Sorted (L.take i ++ [L[i]]) := by rw [← take_snoc hi]; exact sorted_take hs _
  have h2 : p.1 < L[i].1 := by
    have := (List.pairwise_append.1 h1).2.2 p hp L[i] (by simp)
    exact this
  refine ⟨by omega, ?_, p, ?_, hk⟩
  · rw [take_snoc hi, put_snoc_gt h1 ⟨p, hp, hk⟩]
  · rw [take_snoc hi]; exact List.mem_append.2 (.inl hp)
theorem SetInv.before {k : Int} {u : α} {L O : List (Int × α)} {i : Nat} (hi : i < L.length) (h : SetInv k u L i false O) (hk : L[i].1 < k) : SetInv k u L (i + 1) false (O ++ [L[i]]) := by
  simp only [SetInv, Bool.false_eq_true, if_false] at h ⊢
  obtain ⟨rfl, h⟩ := h
  rw [take_snoc hi]
  refine ⟨rfl, fun p hp => ?_⟩
  rcases List.mem_append.1 hp with hp | hp
  · exact h p hp
  · obtain rfl : p = L[i] := by simpa using hp
    exact hk
theorem SetInv.same {k : Int} {u : α} {L O : List (Int × α)} {i : Nat} (hi : i < L.length) (h : SetInv k u L i false O) (hk : L[i].1 = k) : SetInv k u L (i + 1) true (O ++ [(k, u)]) := by
  simp only [SetInv, Bool.false_eq_true, if_false, if_true] at h ⊢
  obtain ⟨rfl, h⟩ := h
  rw [take_snoc hi, put_append_lt h]
  refine ⟨?_, L[i], List.mem_append.2 (.inr (by simp)), by omega⟩
  rcases hq : L[i] with ⟨j, b⟩
  rw [hq] at hk
  simp only at hk
  subst hk
  simp [put]
theorem SetInv.above {k : Int} {u : α} {L O : List (Int × α)} {i : Nat} (hi : i < L.length) (h : SetInv k u L i false O) (hk : k < L[i].1) : SetInv k u L (i + 1) true (O ++ [(k, u)] ++ [L[i]]) := by
  simp only [SetInv, Bool.false_eq_true, if_false, if_true] at h ⊢
  obtain ⟨rfl, h⟩ := h
  rw [take_snoc hi, put_append_lt h]
  refine ⟨?_, L[i], List.mem_append.2 (.inr (by simp)), by omega⟩
  rcases hq : L[i] with ⟨j, b⟩
  rw [hq] at hk
  simp only at hk
  simp [put, hk]
theorem length_put {k : Int} {u : α} {l : List (Int × α)} : (put k u l).length ≤ l.length + 1 := by
  induction l with
  | nil => simp [put]
  | cons p t ih =>
    obtain ⟨j, b⟩ := p
    simp only [put]
    split
    · simp
    · split
      · simp
      · simp only [List.length_cons]; omega
theorem SetInv.len_true {k : Int} {u : α} {L O : List (Int × α)} {i : Nat} (h : SetInv k u L i true O) : O.length ≤ i + 1 := by
  simp only [SetInv, if_true] at h
  have h1 := length_put (k := k) (u := u) (l := L.take i)
  have h2 := List.length_take_le i L
  rw [h.1]; omega
theorem SetInv.len_false {k : Int} {u : α} {L O : List (Int × α)} {i : Nat} (h : SetInv k u L i false O) : O.length ≤ i := by
  simp only [SetInv, Bool.false_eq_true, if_false] at h
  rw [h.1]; exact List.length_take_le i L
theorem SetInv.done {k : Int} {u : α} {L O : List (Int × α)} (h : SetInv k u L L.length true O) : O = put k u L := by
  simp only [SetInv, if_true, List.take_length] at h; exact h.1
theorem SetInv.over {k : Int} {u : α} {L O : List (Int × α)} (h : SetInv k u L L.length false O) : O ++ [(k, u)] = put k u L := by
  simp only [SetInv, Bool.false_eq_true, if_false, List.take_length] at h
  have := put_append_lt (r := []) (u := u) h.2
  rw [List.append_nil] at this
  rw [h.1, this]; rfl
end AL
end Go.Proofs.Ytaldkgnpkeekhaa
