/-
  Proved: DiskSafe answers true for every input, and its arguments read as they read before. No condition.
-/
import Derived.Test.YtaldkgnpkeekhaaSafeA
import Derived.Test.YtaldkgnpkeekhaaOpenB
namespace Go.Proofs.Ytaldkgnpkeekhaa
open Go.ChangeShapes Go.WideShapes Go.ChangeAt Go.RowKit Go.Deep

theorem DiskSafe_walk (w : World) (q : Int) (a b : Option Addr) (cap cap' : Nat) (l more : List DAct) (hl : l.length ≤ maxLen) (hl' : more.length ≤ maxLen) (hw : ∀ x ∈ l, x.Wf) (hs : Src w a (flat actCells l) []) (hs' : Src w b (flat actCells more) [])
    (hq : 0 ≤ q ∧ q ≤ 18446744073709551615) :
    Calls Try.prog 4 #[.slice a l.length cap, .slice b more.length cap', .int .u64 q] w (Lives w) := by
  by_cases h : l.length ≤ 100 ∧ more.length ≤ 100
  · exact safe_main w a b cap cap' l more q h.1 h.2 hw hs hs' hq
  · exact safe_many w a b l.length more.length cap cap' q (by omega) hl hl'

set_option maxRecDepth 100000 in
theorem DiskSafe_lifted (os : Os) (started : os.Started) (H : Type) (enc : TypeId × Value → H) :
    ReturnsInHanded {} Try.checked os 4 .any (Rows.diskSafeSpec.pre6 enc Try.prog Try.f4 Rows.diskSafeRow.domain false) (Rows.diskSafeSpec.post enc Try.prog Try.f4 false true false false) := by
  refine returnsInHanded_of_change (C := Try.checked) ownNone started (by kernel_rfl) Try.func4
    (ChangeSpec.witness6 (enc := enc) (C := Try.checked) false ⟨#[], #[.slice none 0 0, .slice none 0 0, .int .u64 0], []⟩ 8 (by kernel_rfl) (by kernel_rfl) (by kernel_rfl) (by kernel_rfl)) ?_
  intro W base args ds gs before hval0 hW hcnd _
  have hval : ∀ (j : Nat) t v, Try.f4.params[j]? = some t → args[j]? = some v → Value.okWide Try.prog W .any base t v := hval0
  have hW' := hW
  obtain ⟨p, q, hA0, hV, rfl, hfz, hnd⟩ := hW
  have hA : DataW.TrodAll enc Try.prog W 0 (fun _ => true) true Try.f4.params.toList args.toList ds p := hA0
  rw [Try.params4] at hA hval
  obtain ⟨v0, v1, v2, d0, d1, d2, p0, p1, p2, rfl, rfl, rfl, h0, h1, h2⟩ := trodAll_three hA
  obtain ⟨rfl, rfl⟩ := trodVars_none hV
  obtain ⟨n, rfl, rfl, rfl, wn⟩ := open_int Try.underlying31 (hval 2 31 v2 rfl rfl) h2
  obtain ⟨a0, len0, cap0, rfl⟩ := okWide_slice Try.underlying22 (hval 0 22 v0 rfl rfl)
  obtain ⟨a1, len1, cap1, rfl⟩ := okWide_slice Try.underlying22 (hval 1 22 v1 rfl rfl)
  have h0' := h0
  have h1' := h1
  obtain ⟨fuel, hf⟩ := h0
  obtain ⟨fuel', hf'⟩ := h1
  obtain ⟨a, ca, l, hv, hl, hs, hwf⟩ := open_acts (by simpa [Value.cells] using hf)
  obtain ⟨b, cb, more, hv', hl', hs', hwf'⟩ := open_acts (by simpa [Value.cells] using hf')
  rw [hv] at hW' h0' ⊢
  rw [hv'] at hW' h1' ⊢
  clear hA0 hval0
  refine (DiskSafe_walk W n a b ca cb l more hl hl' hwf hs hs' (bounds_u64 wn)).mono fun e W' ⟨he, hk⟩ => ?_
  subst he
  have hb := hk.below
  have hlt : ∀ x ∈ p0 ++ p1, x.block < W.heap.size := fun x hx => hW'.lt x (by rcases List.mem_append.1 hx with h | h <;> simp [h])
  exact ⟨_, rfl, _, _, _, [], _, [], hW', trodAll_mk1 (shut_bool Try.underlying4 true), trodAll_mk3 (Below.trod laidOut (by kernel_rfl) (of_decide_eq_true (by kernel_rfl)) h0' hb (fun x hx => hlt x (by simp [hx]))) (Below.trod laidOut (by kernel_rfl) (of_decide_eq_true (by kernel_rfl)) h1' hb (fun x hx => hlt x (by simp [hx]))) (shut_int Try.underlying31 wn), rfl,
    hb.frame _, fun h => by cases h⟩

theorem DiskSafe_holds : Rows.DiskSafeSaid :=
  OpenClaim.holds_of_wide 4 Try.f4 rfl rfl rfl rfl rfl rfl rfl ⟨rfl, rfl, rfl, rfl, rfl⟩ rfl rfl rfl rfl rfl (by kernel_rfl) Try.func4 (by kernel_rfl)
    (of_decide_eq_true (by kernel_rfl)) (by unfold Func.isWrapper; first | (rw [if_pos (by decide +kernel)]; kernel_rfl) | (rw [if_neg (by decide +kernel)]; exact ⟨rfl, rfl⟩))
    (fun os started H enc _ => DiskSafe_lifted os started H enc)
end Go.Proofs.Ytaldkgnpkeekhaa
