/-
  DegreeTells: for every word, the program's tenths are the document's.
  It holds for every input; the row's listed variables are tied to the program's text by its card.
-/
import Derived.Test.YtlnlbnpabaddkaaDoorDoorA
namespace Go.Proofs.YtlnlbnpabaddkaaDoor
open Go.ChangeShapes Go.WideShapes Go.ChangeAt Go.RowKit

theorem of_ref (w : World) (b : Nat) (hb : b < 2 ^ 64) (x y : Int) (h : retP (ofV b) = .tuple #[.int .i64 x, .int .i64 y]) : Calls Tryd.prog 8 #[.int .u64 b] w fun e w' => e = .returned (.tuple #[.int .i64 x, .int .i64 y]) ∧ w = w' := by
  have := ref01_Of w b hb
  rw [h] at this; exact this
theorem of_any (w : World) (b : Nat) (hb : b < 2 ^ 64) (x y : Int) (h : retP (ofV b) = .tuple #[.int .i64 x, .int .i64 y]) : Calls Tryd.prog 7 #[.int .u64 b] w fun e w' => e = .returned (.tuple #[.int .i64 x, .int .i64 y]) ∧ Below w.heap.size w w' := by
  have := degree_Of w b hb
  rw [h] at this; exact this
theorem Tells_walk (w : World) (b : Nat) (hb : b < 2 ^ 64) (he : Env w) : Calls Tryd.prog 3 #[.int .u64 b] w fun e w' => e = .returned (.bool true) ∧ Below w.heap.size w w' := by
  obtain ⟨x, y, hxy⟩ : ∃ x y, retP (ofV b) = .tuple #[.int .i64 x, .int .i64 y] := ⟨_, _, rfl⟩
  have HX := Lib.hid hxy
  clear hxy
  have HE := Lib.hid he
  clear he
  have HB := Lib.hid hb
  have hb' : (b : Int) < 18446744073709551616 := by omega
  clear hb hb'
  go_enter Tryd.func3, Tryd.ntmps3
  go_wp2_with fail
  refine (of_any _ b HB.out x y HX.out).mono ?_; rintro e w1 ⟨rfl, k1⟩
  go_wp2_with fail
  refine (of_ref _ b HB.out x y HX.out).mono ?_; rintro e w2 ⟨rfl, rfl⟩
  go_wp2_with fail
  refine (law01_alive _ (HE.out.on k1)).mono ?_; rintro e w3 ⟨rfl, k3⟩
  go_wp2_with fail
  go_ret
  exact ⟨rfl, Below.next k1 k3⟩

set_option maxRecDepth 100000 in
theorem Tells_lifted (os : Os) (started : os.Started) (H : Type) (enc : TypeId × Value → H) :
    ReturnsInHanded {} Tryd.checked os 3 .any (fun w args => (Rows.degreeTellsSpec.pre enc Tryd.prog Tryd.f3 Rows.degreeTellsRow.domain false w args ∧ laidMet Tryd.prog laidList w) ∧ sizedMet enc Tryd.prog Tryd.f3 (OpenSpec.ofChange Rows.degreeTellsSpec) false w args)
      (Rows.degreeTellsSpec.post enc Tryd.prog Tryd.f3 false true false false) := by
  refine returnsInHanded_of_change_and (C := Tryd.checked) (X := fun w _ => laidMet Tryd.prog laidList w) (fun _ _ _ hh h => h.of_heap hh) own started (by kernel_rfl) Tryd.func3
    (ChangeSpec.witness_at (enc := enc) (C := Tryd.checked) (os := os) (X := fun w _ => laidMet Tryd.prog laidList w) false (laidWorld os) #[.int .u64 0] 8 rfl (by kernel_rfl) (by kernel_rfl) (by kernel_rfl) (by kernel_rfl) (by kernel_rfl) (laidWorld_met os _)) ?_
  intro W base args ds gs before hval0 hW _ hsz0 hL _
  have hval : ∀ (j : Nat) t v, Tryd.f3.params[j]? = some t → args[j]? = some v → Value.okWide Tryd.prog W .any base t v := hval0
  clear hsz0
  have hW' := hW
  obtain ⟨p, q, hA0, hV, rfl, _, _⟩ := hW
  have hA : DataW.TrodAll enc Tryd.prog W 0 (fun _ => true) true Tryd.f3.params.toList args.toList ds p := hA0
  rw [Tryd.params3] at hA hval
  obtain ⟨v0, d0, rfl, rfl, h0⟩ := trodAll_one hA
  obtain ⟨rfl, rfl⟩ := trodVars_none hV
  obtain ⟨n, rfl, rfl, rfl, wn⟩ := open_int Tryd.underlying22 (hval 0 22 v0 rfl rfl) h0
  clear hA0 hval0
  have hn : ∃ b : Nat, b < 2 ^ 64 ∧ n = (b : Int) := by
    have e1 : IntKind.u64.min = 0 := rfl
    have e2 : IntKind.u64.max = 18446744073709551615 := rfl
    simp [Lit.wf, e1, e2] at wn
    exact ⟨n.toNat, by omega, by omega⟩
  obtain ⟨b, hb, rfl⟩ := hn
  refine (Tells_walk W b hb (env_of_laid hL)).mono fun e W' ⟨he, hnx⟩ => ?_
  subst he
  refine ⟨_, rfl, _, _, _, [], [], [], hW', ?_, ?_, rfl, hnx.frame _, fun h => by cases h⟩
  · exact trodAll_mk1 (shut_bool Tryd.underlying4 true)
  · exact trodAll_mk1 (shut_int Tryd.underlying22 wn)

theorem DegreeTells_row : Rows.DegreeTellsSaid :=
  OpenClaim.holds_of_wide 3 Tryd.f3 rfl rfl rfl rfl rfl rfl rfl ⟨rfl, rfl, rfl, rfl, rfl⟩ rfl rfl rfl rfl rfl (by kernel_rfl) Tryd.func3 (by kernel_rfl)
    (of_decide_eq_true (by kernel_rfl)) (by unfold Func.isWrapper; first | (rw [if_pos (by decide +kernel)]; kernel_rfl) | (rw [if_neg (by decide +kernel)]; exact ⟨rfl, rfl⟩))
    (fun os started H enc _ => Tells_lifted os started H enc)
theorem DegreeTells_holds : Rows.DegreeTellsCardSaid :=
  Claim7.holds_tied_plain_at .later [] [.data, .data, .data, .sentinel, .sentinel] true (Rows.degreeTellsCard.stood.harness) true
    DegreeTells_row (fun _ h => by cases h) (by kernel_rfl) (fun _ h => by cases h) degreeTells_row_tie rfl ⟨rfl, rfl⟩ (by kernel_rfl) rfl
    (fun f fn hf hfn => by
      obtain rfl : f = 3 := Option.some.inj ((show Tryd.prog.funcNamed "hoarfrost/hoarfrostlaw01.DegreeTells" = some 3 by kernel_rfl).symm.trans hf) |>.symm
      obtain rfl : fn = Tryd.f3 := (Option.some.inj (Tryd.func3.symm.trans hfn)).symm
      exact ⟨by kernel_rfl, fun j t ht => by
        rw [Tryd.params3] at ht
        have hm : t ∈ [22] := by simpa using Array.mem_of_getElem? ht
        have hall : ([22].all fun u => !Tryd.prog.wantsStandIn u) = true := by kernel_rfl
        exact (show Tryd.prog.wantsStandIn t = false by simpa using List.all_eq_true.1 hall t hm)⟩)
    (by kernel_rfl)
end Go.Proofs.YtlnlbnpabaddkaaDoor
