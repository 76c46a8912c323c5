/-
  Plain laws for DiskSafe: what a flush, later writes and a restart leave; and the local arrays of byte slices in memory.
-/
import Derived.Test.YtaldkgnpkeekhaaLawC
namespace Go.Proofs.Ytaldkgnpkeekhaa
open Go.RowKit Go.MapKept

theorem flush_fail {d : ADisk} (h : d.flush.2 ≠ 0) : d.flush.1.dn = true := by
  unfold ADisk.flush at h ⊢
  split at h
  · rename_i h1; rw [if_pos h1]; exact h1
  · rename_i h1
    split at h
    · rename_i h2; rw [if_neg h1, if_pos h2]; unfold ADisk.spend; rw [if_pos h2]
    · exact absurd rfl h
theorem flush_done {d : ADisk} (h : d.flush.2 = 0) : d.flush.1.dn = false ∧ d.flush.1.way = [] ∧ d.flush.1.n = d.n := by
  unfold ADisk.flush at h ⊢
  split at h
  · cases h
  · rename_i h1
    split at h
    · cases h
    · rename_i h2
      rw [if_neg h1, if_neg h2]
      refine ⟨?_, rfl, spend_n d⟩
      have : d.spend.dn = d.dn := by
        unfold ADisk.spend; rw [if_neg h2]; split <;> rfl
      simp only [this]; simpa using h1
theorem flush_n (d : ADisk) : d.flush.1.n = d.n := by
  unfold ADisk.flush; split
  · rfl
  · split
    · exact spend_n d
    · exact spend_n d
theorem write_fail {d : ADisk} {i : Int} {l : List Int} (h : (d.write i l).2 ≠ 0) : (d.write i l).1.safe = d.safe ∧ (d.write i l).1.way = d.way ∧ (d.write i l).1.n = d.n := by
  unfold ADisk.write at h ⊢
  split
  · exact ⟨rfl, rfl, rfl⟩
  · rename_i h1
    split
    · exact ⟨rfl, rfl, rfl⟩
    · rename_i h2
      split
      · exact ⟨spend_safe d, spend_way d, spend_n d⟩
      · rename_i h3; rw [if_neg h1, if_neg h2, if_neg h3] at h; exact absurd rfl h

/-- behind the flush of d1: what is safe is as it was; what is on its way was written last -/
structure Later (d1 d : ADisk) (last : Nat → List Int) : Prop where
  good : d.Good
  n : d.n = 8
  safe : d.safe = d1.safe
  way : ∀ (j : Nat) b, AL.get (j : Int) d.way = some b → b = last j
theorem Later.start {d1 : ADisk} (g : d1.Good) (hn : d1.n = 8) (hw : d1.way = []) (c : Nat → List Int) : Later d1 d1 c := ⟨g, hn, rfl, by rw [hw]; simp [AL.get]⟩
theorem Later.fail {d1 d : ADisk} {c : Nat → List Int} {i : Int} {l : List Int} (h : Later d1 d c) (hf : (d.write i l).2 ≠ 0) : Later d1 (d.write i l).1 c := by
  obtain ⟨h1, h2, h3⟩ := write_fail hf
  exact ⟨write_good h.good i l, h3.trans h.n, h1.trans h.safe, by rw [h2]; exact h.way⟩
def upd (c : Nat → List Int) (k : Nat) (b : List Int) : Nat → List Int := fun j => if j = k then b else c j
theorem Later.wrote {d1 d : ADisk} {c : Nat → List Int} {k : Nat} {l : List Int} (h : Later d1 d c) (hf : (d.write (k : Int) l).2 = 0) : Later d1 (d.write (k : Int) l).1 (upd c k l) := by
  obtain ⟨h1, h2, h3, h4⟩ := write_code hf
  have hg := write_good h.good (k : Int) l
  rw [h4] at hg ⊢
  refine ⟨hg, by simp only [spend_n]; exact h.n, by simp only [spend_safe]; exact h.safe, fun j b hb => ?_⟩
  simp only at hb
  rw [AL.get_put] at hb
  unfold upd
  split at hb
  · rename_i e; cases hb; rw [if_pos (by omega)]
  · rename_i e; rw [if_neg (by omega)]; exact h.way j b hb
theorem wrote_where {d : ADisk} {i : Int} {l : List Int} (hn : d.n = 8) (hf : (d.write i l).2 = 0) : 0 ≤ i ∧ i ≤ 7 := by
  obtain ⟨h1, _⟩ := write_code hf
  obtain ⟨_, h2, h3⟩ := wrong_zero h1
  omega
theorem keepSome_get (k : Int) : ∀ (m s : List (Int × List Int)) (q : Int), AL.Sorted m → AL.get k (keepSome s m q) = AL.get k s ∨ ∃ b, AL.get k m = some b ∧ AL.get k (keepSome s m q) = some b
  | [], s, q, _ => .inl rfl
  | (i, a) :: r, s, q, hs => by
    obtain ⟨h1, h2⟩ := AL.sorted_cons.1 hs
    simp only [keepSome]
    rcases keepSome_get k r (if q % 2 = 1 then AL.put i a s else s) (q / 2) h2 with h | ⟨b, hb, h⟩
    · by_cases hq : q % 2 = 1
      · rw [if_pos hq] at h ⊢
        rw [AL.get_put] at h
        by_cases e : i = k
        · rw [if_pos e] at h; exact .inr ⟨a, by simp [AL.get, e], h⟩
        · rw [if_neg e] at h; exact .inl h
      · rw [if_neg hq] at h ⊢; exact .inl h
    · right
      refine ⟨b, ?_, h⟩
      simp only [AL.get]
      rw [if_neg]
      · exact hb
      · rintro rfl
        rw [AL.get_none_of_lt h1] at hb; cases hb
theorem Later.after {d1 d : ADisk} {c : Nat → List Int} (h : Later d1 d c) (h1 : d1.way = []) (q : Int) (k : Nat) (hk : k < 8) :
    (d.restart q).wrong k = 0 ∧ ((d.restart q).at k = d1.at k ∨ (d.restart q).at k = c k) := by
  refine ⟨?_, ?_⟩
  · have e : (d.restart q).n = 8 := h.n
    unfold ADisk.wrong
    rw [if_neg (by simp [ADisk.restart]), if_neg (by rw [e]; omega)]
  · have e1 : (d.restart q).at k = (AL.get (k : Int) (keepSome d.safe d.way q)).getD zeros := by simp [ADisk.at, ADisk.restart, AL.get]
    have e2 : d1.at k = (AL.get (k : Int) d.safe).getD zeros := by simp [ADisk.at, h1, AL.get, h.safe]
    rw [e1, e2]
    rcases keepSome_get (k : Int) d.way d.safe q h.good.sway with hh | ⟨b, hb, hh⟩
    · left; rw [hh]
    · right; rw [hh]; exact h.way k b hb

/-- an array of 8 slices of bytes: the first i of them are those of c -/
structure Arr (W : World) (B : Nat) (L : List Sl) (c : Nat → List Int) (i : Nat) : Prop where
  obj : W.heap[B]? = some (.cells (L.map Sl.val).toArray 48 (0, 0))
  len : L.length = 8
  own : ∀ j (h : j < L.length), j < i → W.ownsRow 0 5 1 L[j].val 32 (bytes (c j))
theorem Arr.keep {W W' : World} {B : Nat} {L : List Sl} {c : Nat → List Int} {i : Nat} {S : List Nat} (h : Arr W B L c i) (k : Keep S W W') (hB : B ∉ S) (hS : ∀ b ∈ S, ∀ cs fr, W.heap[b]? ≠ some (.cells cs 5 fr)) : Arr W' B L c i :=
  ⟨k.at h.obj hB, h.len, fun j hj hi => own_keep (h.own j hj hi) k hS⟩
theorem Arr.keep0 {W W' : World} {B : Nat} {L : List Sl} {c : Nat → List Int} {i : Nat} (h : Arr W B L c i) (k : Keep [] W W') : Arr W' B L c i := h.keep k (by simp) (fun _ h => by cases h)
theorem Arr.drewN {W : World} {B : Nat} {L : List Sl} {c : Nat → List Int} {i : Nat} (h : Arr W B L c i) (n : Nat) : Arr (W.drewN n) B L c i := ⟨h.obj, h.len, h.own⟩
theorem Arr.cell {W : World} {B : Nat} {L : List Sl} {c : Nat → List Int} {i : Nat} (h : Arr W B L c i) {k : Nat} (hk : k < 8) : ∃ hk' : k < L.length, W.cell? ⟨B, k, none⟩ = some (.slice L[k].a L[k].n L[k].c) ∧ W.frozen? ⟨B, k, none⟩ = false ∧ (k < i → L[k].n = 32) := by
  have hk' : k < L.length := by rw [h.len]; exact hk
  refine ⟨hk', ?_, frozen_of_row _ _ _ _ _ h.obj, fun hi => ?_⟩
  · rw [cell_of_row _ _ k _ _ _ h.obj]; simp [hk', Sl.val]
  · obtain ⟨a, cp, e, _⟩ := own_cells (h.own k hk' hi)
    simp only [Sl.val, Value.slice.injEq] at e
    exact e.2.1
/-- a store of a slice into it -/
theorem Arr.set {W : World} {B : Nat} {L : List Sl} {c : Nat → List Int} {i : Nat} (h : Arr W B L c i) {k : Nat} (u : Sl) (b : List Int) (hk : k < 8) (hu : W.ownsRow 0 5 1 u.val 32 (bytes b)) (i' : Nat) (hi : i' ≤ i ∨ i' ≤ k + 1 ∧ k ≤ i) :
    Arr (W.setCell ⟨B, k, none⟩ u.val) B (L.set k u) (upd c k b) i' ∧ Keep [B] W (W.setCell ⟨B, k, none⟩ u.val) := by
  have kp : Keep [B] W (W.setCell ⟨B, k, none⟩ u.val) := (Keep.refl _ _).setCell _ _ (by simp)
  have hS : ∀ x ∈ [B], ∀ cs fr, W.heap[x]? ≠ some (.cells cs 5 fr) := by
    intro x hx cs fr e
    obtain rfl : x = B := by simpa using hx
    rw [h.obj] at e; cases e
  refine ⟨⟨?_, by simp [h.len], fun j hj hji => ?_⟩, kp⟩
  · rw [heap_setCell_same W B k _ _ u.val h.obj]
    simp [List.map_set]
  · unfold upd
    by_cases e : j = k
    · subst e
      rw [if_pos rfl]
      simp only [List.getElem_set_self]
      exact own_keep hu kp hS
    · rw [if_neg e]
      rw [List.getElem_set_ne (fun q => e q.symm)]
      have hj' : j < L.length := by simpa using hj
      exact own_keep (h.own j hj' (by omega)) kp hS
end Go.Proofs.Ytaldkgnpkeekhaa
