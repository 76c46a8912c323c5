/-
  Proved: DiskPlays answers true for every input, and its arguments read as they read before. No condition.
-/
import Derived.Test.YtaldkgnpkeekhaaLawC
import Derived.Test.YtaldkgnpkeekhaaOpen
namespace Go.Proofs.Ytaldkgnpkeekhaa
open Go.ChangeShapes Go.WideShapes Go.ChangeAt Go.RowKit Go.Deep

theorem own : ownKnob Try.prog.godebug = none := by kernel_rfl
theorem laidOut : laidOutB Try.prog = true := by kernel_rfl

theorem ints_row {H : Type} {enc : TypeId × Value → H} {w : World} {n : Nat} {e : TypeId} {k : IntKind} (he : Try.prog.underlying e = some (.int k)) {u : Value} {base : Nat} {spare : Nat → Bool} {held : Bool}
    (h : ∃ y, DataW.trod enc Try.prog w base spare held n e [u] = some y) : ∃ z, u = .int k z ∧ (Lit.int k z).wf = true := by
  obtain ⟨y, h⟩ := h
  obtain ⟨z, h1, _, h3⟩ := DataW.trod_int he h
  exact ⟨z, by simpa using h1, h3⟩

theorem open_acts {H : Type} {enc : TypeId × Value → H} {w : World} {fuel : Nat} {v : Value} {x : DataW H × List MemPlace} {base : Nat} {spare : Nat → Bool} {held : Bool} (h : DataW.trod enc Try.prog w base spare held fuel 22 [v] = some x) :
    ∃ (a : Option Addr) (cap : Nat) (acts : List DAct), v = .slice a acts.length cap ∧ acts.length ≤ maxLen ∧ Src w a (flat actCells acts) [] ∧ ∀ y ∈ acts, y.Wf := by
  obtain ⟨a, len, cap, n, R, rfl, hl, hR⟩ := open_rows Try.underlying22 Try.underlying33 (by kernel_rfl) (by kernel_rfl) h
  have key : ∀ i, i < len → ∃ A : DAct, R i = actCells A ∧ A.Wf := by
    intro i hi
    obtain ⟨h1, _, h3⟩ := hR i hi
    match hRi : R i, h1 with
    | [c0, c1, c2, c3], _ =>
      rw [hRi] at h3
      obtain ⟨z0, rfl, w0⟩ := ints_row Try.underlying5 (h3 0 _ c0 rfl rfl)
      obtain ⟨z1, rfl, w1⟩ := ints_row Try.underlying3 (h3 1 _ c1 rfl rfl)
      obtain ⟨z2, rfl, w2⟩ := ints_row Try.underlying5 (h3 2 _ c2 rfl rfl)
      obtain ⟨z3, rfl, w3⟩ := ints_row Try.underlying31 (h3 3 _ c3 rfl rfl)
      exact ⟨⟨z0, z1, z2, z3⟩, rfl, ⟨(bounds_u8 w0).1, (bounds_u8 w0).2, (bounds_i64 w1).2, bounds_u64 w3⟩⟩
  have : Inhabited DAct := ⟨⟨0, 0, 0, 0⟩⟩
  obtain ⟨f, hf⟩ := choose_lt (α := DAct) key
  refine ⟨a, cap, (List.range len).map f, by simp, by simpa using hl, src_of_rows (k := 4) (fun _ => rfl) (by decide) _ ?_, ?_⟩
  · intro i hi
    have hi' : i < len := by simpa using hi
    obtain ⟨_, ⟨ad, rfl, hc⟩, _⟩ := hR i hi'
    refine ⟨ad, rfl, fun c u hu => hc c u ?_⟩
    rw [(hf i hi').1]
    simpa using hu
  · intro y hy
    obtain ⟨i, hi, rfl⟩ := List.mem_map.1 hy
    exact (hf i (by simpa using hi)).2

theorem DiskPlays_walk (w : World) (n : Int) (a : Option Addr) (cap : Nat) (acts : List DAct) (hl : acts.length ≤ maxLen) (hw : ∀ x ∈ acts, x.Wf) (hs : Src w a (flat actCells acts) []) :
    Calls Try.prog 3 #[.int .i64 n, .slice a acts.length cap] w (Lives w) := by
  by_cases h : acts.length ≤ 100
  · by_cases h1 : n < 1 ∨ 65536 < n
    · exact plays_none w n a acts.length cap h h1
    · exact plays_main w n a cap acts h (by omega) (by omega) hw hs
  · exact plays_many w n a acts.length cap (by omega) hl

set_option maxRecDepth 100000 in
theorem DiskPlays_lifted (os : Os) (started : os.Started) (H : Type) (enc : TypeId × Value → H) :
    ReturnsInHanded {} Try.checked os 3 .any (Rows.diskPlaysSpec.pre6 enc Try.prog Try.f3 Rows.diskPlaysRow.domain false) (Rows.diskPlaysSpec.post enc Try.prog Try.f3 false true false false) := by
  refine returnsInHanded_of_change (C := Try.checked) own started (by kernel_rfl) Try.func3
    (ChangeSpec.witness6 (enc := enc) (C := Try.checked) false ⟨#[], #[.int .i64 0, .slice none 0 0], []⟩ 8 (by kernel_rfl) (by kernel_rfl) (by kernel_rfl) (by kernel_rfl)) ?_
  intro W base args ds gs before hval0 hW hcnd _
  have hval : ∀ (j : Nat) t v, Try.f3.params[j]? = some t → args[j]? = some v → Value.okWide Try.prog W .any base t v := hval0
  have hW' := hW
  obtain ⟨p, q, hA0, hV, rfl, hfz, hnd⟩ := hW
  have hA : DataW.TrodAll enc Try.prog W 0 (fun _ => true) true Try.f3.params.toList args.toList ds p := hA0
  rw [Try.params3] at hA hval
  obtain ⟨v0, v1, d0, d1, p0, p1, rfl, rfl, rfl, h0, h1⟩ := trodAll_two hA
  obtain ⟨rfl, rfl⟩ := trodVars_none hV
  obtain ⟨n, rfl, rfl, rfl, wn⟩ := open_int Try.underlying3 (hval 0 3 v0 rfl rfl) h0
  obtain ⟨a0, len, cap, rfl⟩ := okWide_slice Try.underlying22 (hval 1 22 v1 rfl rfl)
  have h1' := h1
  obtain ⟨fuel, hf⟩ := h1
  obtain ⟨a, cap', acts, hv, hl, hs, hwf⟩ := open_acts (by simpa [Value.cells] using hf)
  rw [hv] at hW' h1' ⊢
  clear hA0 hval0
  refine (DiskPlays_walk W n a cap' acts hl hwf hs).mono fun e W' ⟨he, hk⟩ => ?_
  subst he
  have hb := hk.below
  have hlt : ∀ x ∈ p1, x.block < W.heap.size := fun x hx => hW'.lt x (by simp [hx])
  exact ⟨_, rfl, _, _, _, [], _, [], hW', trodAll_mk1 (shut_bool Try.underlying4 true), trodAll_mk2 (shut_int Try.underlying3 wn) (Below.trod laidOut (by kernel_rfl) (of_decide_eq_true (by kernel_rfl)) h1' hb hlt), rfl,
    hb.frame _, fun h => by cases h⟩

theorem DiskPlays_holds : Rows.DiskPlaysSaid :=
  OpenClaim.holds_of_wide 3 Try.f3 rfl rfl rfl rfl rfl rfl rfl ⟨rfl, rfl, rfl, rfl, rfl⟩ rfl rfl rfl rfl rfl (by kernel_rfl) Try.func3 (by kernel_rfl)
    (of_decide_eq_true (by kernel_rfl)) (by unfold Func.isWrapper; first | (rw [if_pos (by decide +kernel)]; kernel_rfl) | (rw [if_neg (by decide +kernel)]; exact ⟨rfl, rfl⟩))
    (fun os started H enc _ => DiskPlays_lifted os started H enc)
end Go.Proofs.Ytaldkgnpkeekhaa
