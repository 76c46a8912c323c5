/-
  Opening a list of acts that came in: what its cells are.
-/
import Derived.Test.YtaldkgnpkeekhaaLawC
import Derived.Test.YtaldkgnpkeekhaaOpen
namespace Go.Proofs.Ytaldkgnpkeekhaa
open Go.ChangeShapes Go.WideShapes Go.ChangeAt Go.RowKit Go.Deep

theorem ownNone : ownKnob Try.prog.godebug = none := by kernel_rfl
theorem laidOut : laidOutB Try.prog = true := by kernel_rfl

theorem ints_row {H : Type} {enc : TypeId × Value → H} {w : World} {n : Nat} {e : TypeId} {k : IntKind} (he : Try.prog.underlying e = some (.int k)) {u : Value} {base : Nat} {spare : Nat → Bool} {held : Bool}
    (h : ∃ y, DataW.trod enc Try.prog w base spare held n e [u] = some y) : ∃ z, u = .int k z ∧ (Lit.int k z).wf = true := by
  obtain ⟨y, h⟩ := h
  obtain ⟨z, h1, _, h3⟩ := DataW.trod_int he h
  exact ⟨z, by simpa using h1, h3⟩

theorem open_acts {H : Type} {enc : TypeId × Value → H} {w : World} {fuel : Nat} {v : Value} {x : DataW H × List MemPlace} {base : Nat} {spare : Nat → Bool} {held : Bool} (h : DataW.trod enc Try.prog w base spare held fuel 22 [v] = some x) :
    ∃ (a : Option Addr) (cap : Nat) (acts : List DAct), v = .slice a acts.length cap ∧ acts.length ≤ maxLen ∧ Src w a (flat actCells acts) [] ∧ ∀ y ∈ acts, y.Wf := by
  obtain ⟨a, len, cap, n, R, rfl, hl, hR⟩ := open_rows Try.underlying22 Try.underlying33 (by kernel_rfl) (by kernel_rfl) h
  have key : ∀ i, i < len → ∃ A : DAct, R i = actCells A ∧ A.Wf := by
    intro i hi
    obtain ⟨h1, _, h3⟩ := hR i hi
    match hRi : R i, h1 with
    | [c0, c1, c2, c3], _ =>
      rw [hRi] at h3
      obtain ⟨z0, rfl, w0⟩ := ints_row Try.underlying5 (h3 0 _ c0 rfl rfl)
      obtain ⟨z1, rfl, w1⟩ := ints_row Try.underlying3 (h3 1 _ c1 rfl rfl)
      obtain ⟨z2, rfl, w2⟩ := ints_row Try.underlying5 (h3 2 _ c2 rfl rfl)
      obtain ⟨z3, rfl, w3⟩ := ints_row Try.underlying31 (h3 3 _ c3 rfl rfl)
      exact ⟨⟨z0, z1, z2, z3⟩, rfl, ⟨(bounds_u8 w0).1, (bounds_u8 w0).2, (bounds_i64 w1).2, bounds_u64 w3⟩⟩
  have : Inhabited DAct := ⟨⟨0, 0, 0, 0⟩⟩
  obtain ⟨f, hf⟩ := choose_lt (α := DAct) key
  refine ⟨a, cap, (List.range len).map f, by simp, by simpa using hl, src_of_rows (k := 4) (fun _ => rfl) (by decide) _ ?_, ?_⟩
  · intro i hi
    have hi' : i < len := by simpa using hi
    obtain ⟨_, ⟨ad, rfl, hc⟩, _⟩ := hR i hi'
    refine ⟨ad, rfl, fun c u hu => hc c u ?_⟩
    rw [(hf i hi').1]
    simpa using hu
  · intro y hy
    obtain ⟨i, hi, rfl⟩ := List.mem_map.1 hy
    exact (hf i (by simpa using hi)).2

end Go.Proofs.Ytaldkgnpkeekhaa
