/-
  DegreeBack: a tenth has its float's tenths, and a few hundredths more or less have those of the next one, or its own.
  It holds for every input; the row's listed variables are tied to the program's text by its card.
-/
import Derived.Test.YtlnlbnpabaddkaaDoorDoorA
import Derived.Test.YtlnlbnpabaddkaaDoorTenN
namespace Go.Proofs.YtlnlbnpabaddkaaDoor
open Go.ChangeShapes Go.WideShapes Go.ChangeAt Go.RowKit
open Ieee (double)

theorem tmod5 (far : Int) : -4 ≤ far.tmod 5 ∧ far.tmod 5 ≤ 4 := by
  have h1 := Int.tmod_lt_of_pos far (show (0 : Int) < 5 by omega)
  have h2 := Int.lt_tmod_of_pos far (show (0 : Int) < 5 by omega)
  omega
set_option maxHeartbeats 1000000 in
theorem Back_walk (w : World) (n far : Int) (hn : -2147483648 ≤ n ∧ n ≤ 2147483647) (hf : -128 ≤ far ∧ far ≤ 127) (he : Env w) : Calls Tryd.prog 6 #[.int .i32 n, .int .i8 far] w fun e w' => e = .returned (.bool true) ∧ Below w.heap.size w w' := by
  obtain ⟨k, hk⟩ : ∃ k, k = far.tmod 5 := ⟨_, rfl⟩
  have hkb := tmod5 far
  rw [← hk] at hkb
  obtain ⟨f, s, X, hf1, hf2, hfl⟩ := float_div n (by omega)
  obtain ⟨d, D, tk, hd1, hd2, hd3⟩ := k_fin k hkb
  obtain ⟨g1, g2⟩ := hfl.far hd3 (by omega) hkb
  obtain ⟨z, hz1, hz2⟩ := sum_fin hf2 hd2 g1
  have hb := hfl.back (by omega)
  have hq : ∀ ty w, (binOp .quo ty (.float .f64 (floatOfInt .f64 k)) (.float .f64 4636737291354636288)).run Tryd.prog w = .ok (.float .f64 d) w := fun ty w => run_float_arith w .quo ty .f64 _ _ d hd1
  have ha : ∀ ty w, (binOp .add ty (.float .f64 f) (.float .f64 d)).run Tryd.prog w = .ok (.float .f64 z) w := fun ty w => run_float_arith w .add ty .f64 _ _ z hz1
  have HF := Lib.hid (degree_Float · n (by omega) f hf1)
  have HT1 := Lib.hid (Tenths_fin · f s X hf2 n hb)
  have HT2 := Lib.hid (Tenths_fin · z _ _ hz2 _ g2)
  have HE := Lib.hid he
  have hn1 := hn.1
  have hn2 := hn.2
  have hf3 := hf.1
  have hf4 := hf.2
  clear hz1 hz2 g1 g2 hd1 hd2 hd3 hf1 hf2 hfl hb he hn hf
  have hk' : far.tmod 5 = k := hk.symm
  clear hk
  have hk1 := hkb.1
  have hk2 := hkb.2
  clear hkb
  by_cases hp : 0 < k
  all_goals
    first
      | (rw [if_pos hp] at HT2)
      | (rw [if_neg hp] at HT2)
    go_enter Tryd.func6, Tryd.ntmps6
    go_wp2_with fail
    refine (HF.out _).mono ?_; rintro e w1 ⟨rfl, rfl⟩
    go_wp2_with fail
    refine (HT1.out _).mono ?_; rintro e w1 ⟨rfl, rfl⟩
    go_wp2_with fail
    refine (HF.out _).mono ?_; rintro e w1 ⟨rfl, rfl⟩
    go_wp2_with fail
    refine (HT2.out _).mono ?_; rintro e w1 ⟨rfl, rfl⟩
    go_wp2_with fail
    refine (law01_alive _ HE.out).mono ?_; rintro e w1 ⟨rfl, k1⟩
    go_wp2_with fail
    go_ret
    exact ⟨rfl, k1⟩

set_option maxRecDepth 100000 in
theorem Back_lifted (os : Os) (started : os.Started) (H : Type) (enc : TypeId × Value → H) :
    ReturnsInHanded {} Tryd.checked os 6 .any (fun w args => (Rows.degreeBackSpec.pre enc Tryd.prog Tryd.f6 Rows.degreeBackRow.domain false w args ∧ laidMet Tryd.prog laidList w) ∧ sizedMet enc Tryd.prog Tryd.f6 (OpenSpec.ofChange Rows.degreeBackSpec) false w args)
      (Rows.degreeBackSpec.post enc Tryd.prog Tryd.f6 false true false false) := by
  refine returnsInHanded_of_change_and (C := Tryd.checked) (X := fun w _ => laidMet Tryd.prog laidList w) (fun _ _ _ hh h => h.of_heap hh) own started (by kernel_rfl) Tryd.func6
    (ChangeSpec.witness_at (enc := enc) (C := Tryd.checked) (os := os) (X := fun w _ => laidMet Tryd.prog laidList w) false (laidWorld os) #[.int .i32 0, .int .i8 0] 8 rfl (by kernel_rfl) (by kernel_rfl) (by kernel_rfl) (by kernel_rfl) (by kernel_rfl) (laidWorld_met os _)) ?_
  intro W base args ds gs before hval0 hW _ hsz0 hL _
  have hval : ∀ (j : Nat) t v, Tryd.f6.params[j]? = some t → args[j]? = some v → Value.okWide Tryd.prog W .any base t v := hval0
  clear hsz0
  have hW' := hW
  obtain ⟨p, q, hA0, hV, rfl, _, _⟩ := hW
  have hA : DataW.TrodAll enc Tryd.prog W 0 (fun _ => true) true Tryd.f6.params.toList args.toList ds p := hA0
  rw [Tryd.params6] at hA hval
  obtain ⟨v0, v1, d0, d1, p0, p1, rfl, rfl, rfl, h0, h1⟩ := trodAll_two hA
  obtain ⟨rfl, rfl⟩ := trodVars_none hV
  obtain ⟨n, rfl, rfl, rfl, wn⟩ := open_int Tryd.underlying21 (hval 0 21 v0 rfl rfl) h0
  obtain ⟨far, rfl, rfl, rfl, wf⟩ := open_int Tryd.underlying35 (hval 1 35 v1 rfl rfl) h1
  clear hA0 hval0
  have hn : -2147483648 ≤ n ∧ n ≤ 2147483647 := by
    have e1 : IntKind.i32.min = -2147483648 := rfl
    have e2 : IntKind.i32.max = 2147483647 := rfl
    simpa [Lit.wf, e1, e2] using wn
  have hf : -128 ≤ far ∧ far ≤ 127 := by
    have e1 : IntKind.i8.min = -128 := rfl
    have e2 : IntKind.i8.max = 127 := rfl
    simpa [Lit.wf, e1, e2] using wf
  refine (Back_walk W n far hn hf (env_of_laid hL)).mono fun e W' ⟨he, hnx⟩ => ?_
  subst he
  simp only [List.append_nil] at hW'
  refine ⟨_, rfl, _, _, _, [], [], [], hW', ?_, ?_, rfl, hnx.frame _, fun h => by cases h⟩
  · exact trodAll_mk1 (shut_bool Tryd.underlying4 true)
  · exact trodAll_mk2 (shut_int Tryd.underlying21 wn) (shut_int Tryd.underlying35 wf)

theorem DegreeBack_row : Rows.DegreeBackSaid :=
  OpenClaim.holds_of_wide 6 Tryd.f6 rfl rfl rfl rfl rfl rfl rfl ⟨rfl, rfl, rfl, rfl, rfl⟩ rfl rfl rfl rfl rfl (by kernel_rfl) Tryd.func6 (by kernel_rfl)
    (of_decide_eq_true (by kernel_rfl)) (by unfold Func.isWrapper; first | (rw [if_pos (by decide +kernel)]; kernel_rfl) | (rw [if_neg (by decide +kernel)]; exact ⟨rfl, rfl⟩))
    (fun os started H enc _ => Back_lifted os started H enc)
theorem DegreeBack_holds : Rows.DegreeBackCardSaid :=
  Claim7.holds_tied_plain_at .later [] [.data, .data, .data, .sentinel, .sentinel] true (Rows.degreeBackCard.stood.harness) true
    DegreeBack_row (fun _ h => by cases h) (by kernel_rfl) (fun _ h => by cases h) degreeBack_row_tie rfl ⟨rfl, rfl⟩ (by kernel_rfl) rfl
    (fun f fn hf hfn => by
      obtain rfl : f = 6 := Option.some.inj ((show Tryd.prog.funcNamed "hoarfrost/hoarfrostlaw01.DegreeBack" = some 6 by kernel_rfl).symm.trans hf) |>.symm
      obtain rfl : fn = Tryd.f6 := (Option.some.inj (Tryd.func6.symm.trans hfn)).symm
      exact ⟨by kernel_rfl, fun j t ht => by
        rw [Tryd.params6] at ht
        have hm : t ∈ [21, 35] := by simpa using Array.mem_of_getElem? ht
        have hall : ([21, 35].all fun u => !Tryd.prog.wantsStandIn u) = true := by kernel_rfl
        exact (show Tryd.prog.wantsStandIn t = false by simpa using List.all_eq_true.1 hall t hm)⟩)
    (by kernel_rfl)
end Go.Proofs.YtlnlbnpabaddkaaDoor
