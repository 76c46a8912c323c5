/-
  DegreeTexts: a number's text and a text's tenth are the document's, and a tenth is parsed from its text, at any text of at most 100 bytes.
  It holds for every input; the row's listed variables are tied to the program's text by its card.
-/
import Derived.Test.YtlnlbnpabaddkaaDoorDoorA
import Derived.Test.YtlnlbnpabaddkaaDoorTenM
namespace Go.Proofs.YtlnlbnpabaddkaaDoor
open Go.ChangeShapes Go.WideShapes Go.ChangeAt Go.RowKit
open Go.ChangeMaps (open_string shut_string)

theorem Float_none (w : World) (t : Int) (h : ¬ (-1099511627776 ≤ t ∧ t ≤ 1099511627776)) : Calls Tryd.prog 15 #[.int .i64 t] w fun e w' => e = .returned (.float .f64 0) ∧ w = w' := by
  have hb : (decide (-1099511627776 ≤ t) && decide (t ≤ 1099511627776)) = false := by
    rw [← Bool.not_eq_true, Bool.and_eq_true, decide_eq_true_iff, decide_eq_true_iff]; exact h
  clear h
  go_enter Tryd.func15, Tryd.ntmps15
  go_wp2_with (go_at_call 22; refine (degree_right _ t).mono ?_; rw [hb]; rintro e w1 ⟨rfl, rfl⟩)
  go_ret
  exact ⟨rfl, rfl⟩
theorem parse_prog (w : World) (s : ByteArray) (h2 : s.size ≤ 1000) (he : Env w) (x y : Int) (h : retP (parseP s.data.toList) = .tuple #[.int .i64 x, .int .i64 y]) : Calls Tryd.prog 11 #[.string s] w fun e w' => e = .returned (.tuple #[.int .i64 x, .int .i64 y]) ∧ Below w.heap.size w w' := by
  have := degree_Parse w s h2 he
  rw [h] at this; exact this
theorem parse_ref (w : World) (s : ByteArray) (h2 : s.size ≤ 1000) (x y : Int) (h : retP (parseP s.data.toList) = .tuple #[.int .i64 x, .int .i64 y]) : Calls Tryd.prog 12 #[.string s] w fun e w' => e = .returned (.tuple #[.int .i64 x, .int .i64 y]) ∧ Below w.heap.size w w' := by
  have := ref01_Parse w s (by unfold maxLen; omega)
  rw [← parse_same, h] at this; exact this
theorem text_prog (w : World) (t : Int) (he : Env w) (X : ByteArray) (h : X = ⟨(Txt t).toArray⟩) : Calls Tryd.prog 13 #[.int .i64 t] w fun e w' => e = .returned (.string X) ∧ Below w.heap.size w w' := by
  rw [h]; exact degree_Text w t he.pow
theorem text_ref (w : World) (t : Int) (X : ByteArray) (h : X = ⟨(Txt t).toArray⟩) : Calls Tryd.prog 14 #[.int .i64 t] w fun e w' => e = .returned (.string X) ∧ Below w.heap.size w w' := by
  rw [h]; exact ref01_Text w t

theorem Texts_long (w : World) (t : Int) (s : ByteArray) (h : 100 < s.size) (h2 : s.size ≤ maxLen) (he : Env w) : Calls Tryd.prog 5 #[.int .i64 t, .string s] w fun e w' => e = .returned (.bool true) ∧ Below w.heap.size w w' := by
  unfold maxLen at h2
  have h' : (100 : Int) < s.size := by omega
  have HE := Lib.hid he
  clear he
  go_enter Tryd.func5, Tryd.ntmps5
  go_wp2_with fail
  refine (law01_alive _ HE.out).mono ?_; rintro e w1 ⟨rfl, k1⟩
  go_wp2_with fail
  go_ret
  exact ⟨rfl, k1⟩
set_option maxHeartbeats 2000000 in
theorem Texts_short (w : World) (t : Int) (s : ByteArray) (h : s.size ≤ 100) (he : Env w) : Calls Tryd.prog 5 #[.int .i64 t, .string s] w fun e w' => e = .returned (.bool true) ∧ Below w.heap.size w w' := by
  obtain ⟨x, y, hxy⟩ : ∃ x y, retP (parseP s.data.toList) = .tuple #[.int .i64 x, .int .i64 y] := ⟨_, _, rfl⟩
  have HX := Lib.hid hxy
  obtain ⟨X, hX⟩ : ∃ X : ByteArray, X = ⟨(Txt t).toArray⟩ := ⟨_, rfl⟩
  have HT := Lib.hid hX
  have HE := Lib.hid he
  have hXs : X.size ≤ 1000 := by
    rw [hX, ba_len]
    unfold Txt
    split
    · have := txt_len t.natAbs (by omega)
      split <;> simp <;> omega
    · simp
  by_cases hr : -1099511627776 ≤ t ∧ t ≤ 1099511627776
  · have hne : Txt t ≠ [] := by
      rw [Txt_pos hr.1 hr.2]
      have := txt_len t.natAbs (by omega)
      split
      · simp
      · intro h0; rw [h0] at this; simp at this
    have hXe : (X.toList == []) = false := by
      rw [beq_eq_false_iff_ne, ByteArray.toList_eq, hX]; exact hne
    have hXe2 : X.toList.isEmpty = false := by
      rw [ByteArray.toList_eq, hX]
      cases hc : Txt t with
      | nil => exact absurd hc hne
      | cons => rfl
    have HP : Hid (retP (parseP X.data.toList) = .tuple #[.int .i64 t, .int .i64 0]) := by
      unfold Hid; rw [hX, parseP_of rfl hne]; rfl
    clear hxy hX he hr hne
    go_enter Tryd.func5, Tryd.ntmps5
    go_wp2_with fail
    refine (parse_prog _ s (by omega) HE.out x y HX.out).mono ?_; rintro e w1 ⟨rfl, k1⟩
    go_wp2_with fail
    refine (parse_ref _ s (by omega) x y HX.out).mono ?_; rintro e w2 ⟨rfl, k⟩
    have k2 := Below.next k1 k
    clear k k1
    go_wp2_with fail
    refine (text_prog _ t (HE.out.on k2) X HT.out).mono ?_; rintro e w3 ⟨rfl, k⟩
    have k3 := Below.next k2 k
    clear k k2
    go_wp2_with fail
    refine (text_ref _ t X HT.out).mono ?_; rintro e w4 ⟨rfl, k⟩
    have k4 := Below.next k3 k
    clear k k3
    go_wp2_with fail
    refine (parse_prog _ X hXs (HE.out.on k4) t 0 HP.out).mono ?_; rintro e w5 ⟨rfl, k⟩
    have k5 := Below.next k4 k
    clear k k4
    go_wp2_with fail
    refine (law01_alive _ (HE.out.on k5)).mono ?_; rintro e w6 ⟨rfl, k⟩
    have k6 := Below.next k5 k
    clear k k5
    go_wp2_with fail
    go_ret
    exact ⟨rfl, k6⟩
  · have hTe : Txt t = [] := by unfold Txt; rw [if_neg hr]
    have hXe2 : X.toList.isEmpty = true := by
      rw [ByteArray.toList_eq, hX, hTe]; rfl
    have hXe3 : X.toList = [] := by
      rw [ByteArray.toList_eq, hX, hTe]
    have HR := Lib.hid hr
    clear hxy hX he hr hTe
    go_enter Tryd.func5, Tryd.ntmps5
    go_wp2_with fail
    refine (parse_prog _ s (by omega) HE.out x y HX.out).mono ?_; rintro e w1 ⟨rfl, k1⟩
    go_wp2_with fail
    refine (parse_ref _ s (by omega) x y HX.out).mono ?_; rintro e w2 ⟨rfl, k⟩
    have k2 := Below.next k1 k
    clear k k1
    go_wp2_with fail
    refine (text_prog _ t (HE.out.on k2) X HT.out).mono ?_; rintro e w3 ⟨rfl, k⟩
    have k3 := Below.next k2 k
    clear k k2
    go_wp2_with fail
    refine (text_ref _ t X HT.out).mono ?_; rintro e w4 ⟨rfl, k⟩
    have k4 := Below.next k3 k
    clear k k3
    go_wp2_with fail
    refine (law01_alive _ (HE.out.on k4)).mono ?_; rintro e w6 ⟨rfl, k⟩
    have k6 := Below.next k4 k
    clear k k4
    go_wp2_with fail
    refine (Float_none _ t HR.out).mono ?_; rintro e w7 ⟨rfl, rfl⟩
    go_wp2_with fail
    go_ret
    exact ⟨rfl, k6⟩
set_option maxRecDepth 100000 in
theorem Texts_lifted (os : Os) (started : os.Started) (H : Type) (enc : TypeId × Value → H) :
    ReturnsInHanded {} Tryd.checked os 5 .any (fun w args => (Rows.degreeTextsSpec.pre enc Tryd.prog Tryd.f5 Rows.degreeTextsRow.domain false w args ∧ laidMet Tryd.prog laidList w) ∧ sizedMet enc Tryd.prog Tryd.f5 (OpenSpec.ofChange Rows.degreeTextsSpec) false w args)
      (Rows.degreeTextsSpec.post enc Tryd.prog Tryd.f5 false true false false) := by
  refine returnsInHanded_of_change_and (C := Tryd.checked) (X := fun w _ => laidMet Tryd.prog laidList w) (fun _ _ _ hh h => h.of_heap hh) own started (by kernel_rfl) Tryd.func5
    (ChangeSpec.witness_at (enc := enc) (C := Tryd.checked) (os := os) (X := fun w _ => laidMet Tryd.prog laidList w) false (laidWorld os) #[.int .i64 0, .string ⟨#[]⟩] 8 rfl (by kernel_rfl) (by kernel_rfl) (by kernel_rfl) (by kernel_rfl) (by kernel_rfl) (laidWorld_met os _)) ?_
  intro W base args ds gs before hval0 hW _ hsz0 hL _
  have hval : ∀ (j : Nat) t v, Tryd.f5.params[j]? = some t → args[j]? = some v → Value.okWide Tryd.prog W .any base t v := hval0
  clear hsz0
  have hW' := hW
  obtain ⟨p, q, hA0, hV, rfl, _, _⟩ := hW
  have hA : DataW.TrodAll enc Tryd.prog W 0 (fun _ => true) true Tryd.f5.params.toList args.toList ds p := hA0
  rw [Tryd.params5] at hA hval
  obtain ⟨v0, v1, d0, d1, p0, p1, rfl, rfl, rfl, h0, h1⟩ := trodAll_two hA
  obtain ⟨rfl, rfl⟩ := trodVars_none hV
  obtain ⟨n, rfl, rfl, rfl, wn⟩ := open_int Tryd.underlying3 (hval 0 3 v0 rfl rfl) h0
  obtain ⟨s, rfl, rfl, rfl, hs⟩ := open_string Tryd.underlying9 (hval 1 9 v1 rfl rfl) h1
  clear hA0 hval0
  have hw : Calls Tryd.prog 5 #[.int .i64 n, .string s] W fun e w' => e = .returned (.bool true) ∧ Below W.heap.size W w' := by
    by_cases hl : s.size ≤ 100
    · exact Texts_short W n s hl (env_of_laid hL)
    · exact Texts_long W n s (by omega) (by first | exact hs | (simp [Lit.wf] at hs; omega)) (env_of_laid hL)
  refine hw.mono fun e W' ⟨he, hnx⟩ => ?_
  subst he
  simp only [List.append_nil] at hW'
  refine ⟨_, rfl, _, _, _, [], [], [], hW', ?_, ?_, rfl, hnx.frame _, fun h => by cases h⟩
  · exact trodAll_mk1 (shut_bool Tryd.underlying4 true)
  · exact trodAll_mk2 (shut_int Tryd.underlying3 wn) (shut_string Tryd.underlying9 hs)

theorem DegreeTexts_row : Rows.DegreeTextsSaid :=
  OpenClaim.holds_of_wide 5 Tryd.f5 rfl rfl rfl rfl rfl rfl rfl ⟨rfl, rfl, rfl, rfl, rfl⟩ rfl rfl rfl rfl rfl (by kernel_rfl) Tryd.func5 (by kernel_rfl)
    (of_decide_eq_true (by kernel_rfl)) (by unfold Func.isWrapper; first | (rw [if_pos (by decide +kernel)]; kernel_rfl) | (rw [if_neg (by decide +kernel)]; exact ⟨rfl, rfl⟩))
    (fun os started H enc _ => Texts_lifted os started H enc)
theorem DegreeTexts_holds : Rows.DegreeTextsCardSaid :=
  Claim7.holds_tied_plain_at .later [] [.data, .data, .data, .sentinel, .sentinel] true (Rows.degreeTextsCard.stood.harness) true
    DegreeTexts_row (fun _ h => by cases h) (by kernel_rfl) (fun _ h => by cases h) degreeTexts_row_tie rfl ⟨rfl, rfl⟩ (by kernel_rfl) rfl
    (fun f fn hf hfn => by
      obtain rfl : f = 5 := Option.some.inj ((show Tryd.prog.funcNamed "hoarfrost/hoarfrostlaw01.DegreeTexts" = some 5 by kernel_rfl).symm.trans hf) |>.symm
      obtain rfl : fn = Tryd.f5 := (Option.some.inj (Tryd.func5.symm.trans hfn)).symm
      exact ⟨by kernel_rfl, fun j t ht => by
        rw [Tryd.params5] at ht
        have hm : t ∈ [3, 9] := by simpa using Array.mem_of_getElem? ht
        have hall : ([3, 9].all fun u => !Tryd.prog.wantsStandIn u) = true := by kernel_rfl
        exact (show Tryd.prog.wantsStandIn t = false by simpa using List.all_eq_true.1 hall t hm)⟩)
    (by kernel_rfl)
end Go.Proofs.YtlnlbnpabaddkaaDoor
