/-
  Plain laws of the abstract disk: what it keeps stays well formed.
-/
import Derived.Test.YtaldkgnpkeekhaaDiskD
namespace Go.Proofs.Ytaldkgnpkeekhaa

namespace AL
variable {α : Type}
theorem all_putAll {A B : List (Int × α)} {R : Int → α → Prop} (hA : ∀ i l, get i A = some l → R i l) (hB : ∀ i l, get i B = some l → R i l) (hs : Sorted B) : ∀ i l, get i (putAll A B) = some l → R i l := by
  intro i l h
  rw [get_putAll (keys_nodup hs)] at h
  cases hb : get i B with
  | some x => rw [hb] at h; cases h; exact hB i _ hb
  | none => rw [hb] at h; exact hA i l h
theorem all_put {A : List (Int × α)} {k : Int} {a : α} {R : Int → α → Prop} (hA : ∀ i l, get i A = some l → R i l) (ha : R k a) : ∀ i l, get i (put k a A) = some l → R i l := by
  intro i l h
  rw [get_put] at h
  split at h
  · rename_i e; cases h; subst e; exact ha
  · exact hA i l h
theorem get_take {l : List (Int × α)} (hs : Sorted l) {j : Nat} {i : Int} {a : α} (h : get i (l.take j) = some a) : get i l = some a := by
  have h1 : Sorted (l.take j) := List.Pairwise.sublist (List.take_sublist j l) hs
  rw [get_some_iff h1] at h
  rw [get_some_iff hs]
  exact List.mem_of_mem_take h
end AL

/-- way and safe are sorted -/
structure ADisk.Good (d : ADisk) : Prop extends d.Ok where
  sway : AL.Sorted d.way
  ssafe : AL.Sorted d.safe

theorem spend_n (d : ADisk) : d.spend.n = d.n := by unfold ADisk.spend; split <;> (try split) <;> rfl
theorem spend_p (d : ADisk) (h1 : -1 ≤ d.p) (h2 : d.p ≤ 9223372036854775807) : -1 ≤ d.spend.p ∧ d.spend.p ≤ 9223372036854775807 := by
  unfold ADisk.spend
  split
  · exact ⟨h1, h2⟩
  · split
    · simp only; omega
    · exact ⟨h1, h2⟩
theorem spend_good {d : ADisk} (h : d.Good) : d.spend.Good := by
  obtain ⟨p1, p2⟩ := spend_p d h.p h.p2
  refine ⟨⟨?_, ?_, ?_, p1, p2⟩, ?_, ?_⟩
  · rw [spend_way, spend_n]; exact h.way
  · rw [spend_safe, spend_n]; exact h.safe
  · rw [spend_n]; exact h.n
  · rw [spend_way]; exact h.sway
  · rw [spend_safe]; exact h.ssafe
theorem flush_good {d : ADisk} (h : d.Good) : d.flush.1.Good := by
  unfold ADisk.flush
  split
  · exact h
  · split
    · exact spend_good h
    · obtain ⟨p1, p2⟩ := spend_p d h.p h.p2
      refine ⟨⟨by simp [AL.get], ?_, ?_, p1, p2⟩, AL.sorted_nil, AL.sorted_putAll h.ssafe⟩
      · simp only [spend_n]; exact AL.all_putAll h.safe h.way h.sway
      · simp only [spend_n]; exact h.n
theorem arm_good {d : ADisk} (h : d.Good) (n : Int) (hn : n ≤ 9223372036854775807) : (d.arm n).Good := by
  unfold ADisk.arm
  split
  · exact h
  · exact ⟨⟨h.way, h.safe, h.n, by simp only; omega, by simp only; omega⟩, h.sway, h.ssafe⟩
theorem wrong_zero {d : ADisk} {i : Int} (h : d.wrong i = 0) : d.dn = false ∧ 0 ≤ i ∧ i < d.n := by
  unfold ADisk.wrong at h
  split at h
  · cases h
  · rename_i h1
    split at h
    · cases h
    · rename_i h2
      exact ⟨by simpa using h1, by omega, by omega⟩
theorem write_good {d : ADisk} (h : d.Good) (i : Int) (l : List Int) : (d.write i l).1.Good := by
  unfold ADisk.write
  split
  · exact h
  · rename_i hw
    split
    · exact h
    · rename_i hl
      split
      · exact spend_good h
      · have hw : d.wrong i = 0 := by simpa using hw
        have hl : l.length = 32 := by simpa using hl
        obtain ⟨p1, p2⟩ := spend_p d h.p h.p2
        obtain ⟨_, w1, w2⟩ := wrong_zero hw
        refine ⟨⟨?_, ?_, ?_, p1, p2⟩, AL.sorted_put h.sway, ?_⟩
        · simp only [spend_n]; exact AL.all_put h.way ⟨hl, w1, w2⟩
        · simp only [spend_n, spend_safe]; exact h.safe
        · simp only [spend_n]; exact h.n
        · simp only [spend_safe]; exact h.ssafe
theorem keepSome_all {R : Int → List Int → Prop} : ∀ (m s : List (Int × List Int)) (q : Int), (∀ i l, AL.get i s = some l → R i l) → (∀ p ∈ m, R p.1 p.2) → AL.Sorted s → (∀ i l, AL.get i (keepSome s m q) = some l → R i l) ∧ AL.Sorted (keepSome s m q)
  | [], s, q, h1, _, h3 => ⟨h1, h3⟩
  | (k, a) :: r, s, q, h1, h2, h3 => by
    simp only [keepSome]
    refine keepSome_all r _ _ ?_ (fun p hp => h2 p (by simp [hp])) ?_
    · split
      · exact AL.all_put h1 (h2 (k, a) (by simp))
      · exact h1
    · split
      · exact AL.sorted_put h3
      · exact h3
theorem restart_good {d : ADisk} (h : d.Good) (q : Int) : (d.restart q).Good := by
  have hm : ∀ p ∈ d.way, p.2.length = 32 ∧ 0 ≤ p.1 ∧ p.1 < d.n := fun p hp => h.way p.1 p.2 ((AL.get_some_iff h.sway).2 hp)
  obtain ⟨h1, h2⟩ := keepSome_all (R := fun i l => l.length = 32 ∧ 0 ≤ i ∧ i < d.n) d.way d.safe q h.safe hm h.ssafe
  exact ⟨⟨by simp [ADisk.restart, AL.get], h1, h.n, by simp [ADisk.restart], by simp [ADisk.restart]⟩, AL.sorted_nil, h2⟩
theorem new_good {n : Int} (h : n ≤ 65536) : (ADisk.mk n [] [] (-1) false).Good :=
  ⟨⟨by simp [AL.get], by simp [AL.get], h, by simp, by simp⟩, AL.sorted_nil, AL.sorted_nil⟩
theorem DiskP.good {w : World} {x s y : Nat} {d : ADisk} (h : DiskP w x s y d) (ok : d.Ok) : d.Good := ⟨ok, h.way.sorted, h.safe.sorted⟩

namespace AL
variable {α : Type}
theorem length_le_of {l : List (Int × α)} : ∀ {lo hi : Int}, Sorted l → (∀ p ∈ l, lo ≤ p.1 ∧ p.1 < hi) → lo ≤ hi → (l.length : Int) ≤ hi - lo := by
  induction l with
  | nil => intro lo hi _ _ h; simp; omega
  | cons p t ih =>
    intro lo hi hs hb hlh
    obtain ⟨j, a⟩ := p
    obtain ⟨h1, h2⟩ := sorted_cons.1 hs
    have hj := hb (j, a) (by simp)
    simp only at hj
    have := ih (lo := j + 1) (hi := hi) h2 (fun q hq => ⟨by have := h1 q hq; omega, (hb q (by simp [hq])).2⟩) (by omega)
    simp only [List.length_cons]
    omega
theorem length_le_n {l : List (Int × α)} {n : Int} (hs : Sorted l) (h : ∀ i a, get i l = some a → 0 ≤ i ∧ i < n) (hn : n ≤ 65536) : l.length ≤ 65536 := by
  cases l with
  | nil => simp
  | cons p r =>
    have hp := h p.1 p.2 ((get_some_iff hs).2 (by simp))
    have := length_le_of (lo := 0) (hi := n) hs (fun q hq => h q.1 q.2 ((get_some_iff hs).2 hq)) (by omega)
    omega
end AL
theorem ADisk.Good.way_len {d : ADisk} (h : d.Good) : d.way.length ≤ 65536 := AL.length_le_n h.sway (fun i a hg => (h.way i a hg).2) h.n
theorem ADisk.Good.safe_len {d : ADisk} (h : d.Good) : d.safe.length ≤ 65536 := AL.length_le_n h.ssafe (fun i a hg => (h.safe i a hg).2) h.n
end Go.Proofs.Ytaldkgnpkeekhaa
