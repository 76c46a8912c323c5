/-
  Groundwork for the rows: a slice of structs that came in, opened to its cells; what is read of it.
-/
import Derived.Test.YtaldkgnpkeekhaaRows
import Derived.Test.YtaldkgnpkeekhaaRows2
import Derived.ProofKit
import Derived.OpenShut
import Derived.Deep.Slices
import Derived.Deep.Fields
import Derived.ChangeSame
namespace Go.Proofs.Ytaldkgnpkeekhaa
open Go.ChangeShapes Go.WideShapes Go.ChangeAt Go.RowKit Go.Deep

section
variable {H : Type} {enc : TypeId × Value → H} {P : Program} {w : World} {base : Nat} {spare : Nat → Bool} {held : Bool}
/-- a slice of structs of one-cell fields: the rows of its cells, each field with its reading -/
theorem open_rows {t e : TypeId} {fs : Array Field} {fuel : Nat} {v : Value} {x : DataW H × List MemPlace} (ht : P.underlying t = some (.slice e)) (he : P.underlying e = some (.struct fs)) (hone : oneCellFields P fs = true) (hC : P.cellsOf e = fs.size)
    (h : DataW.trod enc P w base spare held fuel t [v] = some x) :
    ∃ (a : Option Addr) (len cap n : Nat) (R : Nat → List Value), v = .slice a len cap ∧ len ≤ maxLen ∧
      ∀ i, i < len → (R i).length = fs.size ∧ (∃ ad, a = some ad ∧ ∀ c u, (R i)[c]? = some u → w.cell? (ad.add (i * fs.size + c)) = some u) ∧
        ∀ (j : Nat) (f : Field) (u : Value), fs[j]? = some f → (R i)[j]? = some u → ∃ y, DataW.trod enc P w base spare held n f.type [u] = some y := by
  rcases open_slice ht h with ⟨hv, _⟩ | ⟨a, len, cap, m, n, D, Pl, hv, _, hl, hm, hmm, _, hi⟩
  · refine ⟨none, 0, 0, 0, fun _ => [], by simpa using hv, Nat.zero_le _, fun i hi => by omega⟩
  · obtain rfl : v = .slice (some a) len cap := by simpa using hv
    have hlm : len ≤ m := by rw [hmm]; split <;> omega
    have key : ∀ i, i < len → ∃ cs' : List Value, cs'.length = fs.size ∧ (∀ c u, cs'[c]? = some u → w.cell? (a.add (i * fs.size + c)) = some u) ∧
        ∀ (j : Nat) (f : Field) (u : Value), fs[j]? = some f → cs'[j]? = some u → ∃ y, DataW.trod enc P w base spare held (n - 1) f.type [u] = some y := by
      intro i hil
      obtain ⟨cs', hc, ht'⟩ := hi i (by omega)
      rw [hC] at hc
      obtain ⟨_, hcl, hat⟩ := World.cells?_some hc
      obtain ⟨ys, n', hn', _, _, hyl, hf⟩ := DataW.trod_struct he ht'
      refine ⟨cs', hcl, fun c u hu => ?_, fun j f u hj hu => ?_⟩
      · have hlt := (List.getElem?_eq_some_iff.1 hu).1
        rw [← Go.Deep.add_add, hat c (by omega), hu]
      · obtain ⟨ho, hk⟩ := hone_of hone j f hj
        have h1 := hf j f hj
        have hjl : j < fs.size := (Array.getElem?_eq_some_iff.1 hj).1
        rw [ho, hk] at h1
        have e1 : (cs'.drop j).take 1 = [u] := by
          rw [List.drop_eq_getElem_cons (by omega)]
          have := (List.getElem?_eq_some_iff.1 hu).2
          simp [this]
        rw [e1, List.getElem?_eq_getElem (by omega)] at h1
        exact ⟨_, by rw [show n - 1 = n' by omega]; exact h1⟩
    obtain ⟨R, hR⟩ := choose_lt (α := List Value) key
    exact ⟨some a, len, cap, n - 1, R, rfl, by omega, fun i hil => ⟨(hR i hil).1, ⟨a, rfl, (hR i hil).2.1⟩, (hR i hil).2.2⟩⟩
end

/-- rows of cells, as what is read of a slice of elements -/
theorem src_of_rows {β : Type} {f : β → List Value} {k : Nat} (hf : ∀ x, (f x).length = k) (hk : 0 < k) {w : World} {a : Option Addr} (L : List β)
    (h : ∀ i (hi : i < L.length), ∃ ad, a = some ad ∧ ∀ c u, (f L[i])[c]? = some u → w.cell? (ad.add (i * k + c)) = some u) : Src w a (flat f L) [] := by
  refine ⟨fun hp => ?_, by simp⟩
  rw [flat_length hf] at hp
  have h0 : 0 < L.length := by
    rcases Nat.eq_zero_or_pos L.length with h | h
    · rw [h] at hp; simp at hp
    · exact h
  obtain ⟨ad, rfl, _⟩ := h 0 h0
  refine ⟨ad, rfl, fun j u hu => ?_⟩
  have hj : j < L.length * k := by
    have := (List.getElem?_eq_some_iff.1 hu).1
    rwa [flat_length hf] at this
  have hd : j = j / k * k + j % k := by rw [Nat.mul_comm]; exact (Nat.div_add_mod j k).symm
  have hi : j / k < L.length := by rw [Nat.div_lt_iff_lt_mul hk]; exact hj
  have hc : j % k < k := Nat.mod_lt _ hk
  obtain ⟨ad', he, hcell⟩ := h (j / k) hi
  cases he
  have hg := flat_get hf L (j / k) (j % k) hi hc
  rw [hd, hg] at hu
  rw [hd]
  exact hcell _ _ hu
end Go.Proofs.Ytaldkgnpkeekhaa
