/-
  DegreeOrder: tenths are ordered as their floats are; each float's tenths are not below its tenfold, and less than one above.
  It holds for every input; the row's listed variables are tied to the program's text by its card.
-/
import Derived.Test.YtlnlbnpabaddkaaDoorDoorA
import Derived.Test.YtlnlbnpabaddkaaDoorFloatG
namespace Go.Proofs.YtlnlbnpabaddkaaDoor
open Go.ChangeShapes Go.WideShapes Go.ChangeAt Go.RowKit
open Ieee (double)

theorem Tenths_nan (w : World) (x : Nat) (h : ∃ s t, double.read x = .nan s t) : Calls Tryd.prog 10 #[.float .f64 x] w fun e w' => e = .returned (.tuple #[.int .i64 0, .int .i64 2]) ∧ Below w.heap.size w w' := by
  obtain ⟨s, t, h⟩ := h
  refine (degree_Tenths_nan w x s t h).mono ?_
  rintro e w' ⟨rfl, rfl⟩
  exact ⟨rfl, (Below.refl _ _).drew⟩
theorem Tenths_val (w : World) (x : Nat) (s : Bool) (V : Nat) (h : Val x s V) (a : Int) (ha : a = tenV s (rnd (10 * V))) : Calls Tryd.prog 10 #[.float .f64 x] w fun e w' => e = .returned (.tuple #[.int .i64 a, .int .i64 0]) ∧ w = w' := by
  rw [ha]
  rcases h with ⟨h, _⟩ | ⟨h, hV⟩
  · exact degree_Tenths w x s V h
  · rw [hV]
    unfold tenV
    rw [if_pos top_inf]
    exact degree_Tenths_inf w x s h
theorem nan_self {x : Nat} (h : ∃ s t, double.read x = .nan s t) : double.order x x = none := by
  obtain ⟨s, t, h⟩ := h
  unfold Ieee.Format.order; rw [h]; rfl
theorem val_self {x : Nat} {s : Bool} {V : Nat} (h : Val x s V) : double.order x x = some .eq := by rw [order_val h h, cmp_eq]

set_option maxRecDepth 100000 in
set_option maxHeartbeats 1000000 in
theorem Order_nan (w : World) (x y : Nat) (he : Env w) (ex ey : Int) (ox oy : Option Ordering) (hx : ox = none ∧ ex = 2 ∨ ox = some .eq ∧ ex = 0) (hy : oy = none ∧ ey = 2 ∨ oy = some .eq ∧ ey = 0) (hn : ox = none ∨ oy = none)
    (h1 : double.order x x = ox) (h2 : double.order y y = oy) (a b : Int)
    (ha : ∀ w, Calls Tryd.prog 10 #[.float .f64 x] w fun e w' => e = .returned (.tuple #[.int .i64 a, .int .i64 ex]) ∧ Below w.heap.size w w')
    (hb : ∀ w, Calls Tryd.prog 10 #[.float .f64 y] w fun e w' => e = .returned (.tuple #[.int .i64 b, .int .i64 ey]) ∧ Below w.heap.size w w') :
    Calls Tryd.prog 4 #[.float .f64 x, .float .f64 y] w fun e w' => e = .returned (.bool true) ∧ Below w.heap.size w w' := by
  have o1 : FloatKind.f64.format.order x x = ox := h1
  have o2 : FloatKind.f64.format.order y y = oy := h2
  have HA := Lib.hid ha
  have HB := Lib.hid hb
  have HE := Lib.hid he
  clear h1 h2 ha hb he
  rcases hx with ⟨rfl, rfl⟩ | ⟨rfl, rfl⟩ <;> rcases hy with ⟨rfl, rfl⟩ | ⟨rfl, rfl⟩
  case inr.inr => rcases hn with h | h <;> cases h
  all_goals
    clear hn
    go_enter Tryd.func4, Tryd.ntmps4
    go_wp2_with fail
    refine (HA.out _).mono ?_; rintro e w1 ⟨rfl, k1⟩
    go_wp2_with fail
    refine (HB.out _).mono ?_; rintro e w2 ⟨rfl, k⟩
    have k2 := Below.next k1 k
    clear k1 k
    go_wp2_with fail
    refine (law01_alive _ (HE.out.on k2)).mono ?_; rintro e w3 ⟨rfl, k⟩
    have k3 := Below.next k2 k
    clear k2 k
    go_wp2_with fail
    go_ret
    exact ⟨rfl, k3⟩

/-- how two floats stand, and their tenths -/
def Stand (x y : Nat) (a b : Int) : Prop := (double.order x y = some .lt ∧ double.order y x = some .gt ∧ a ≤ b) ∨ (double.order x y = some .eq ∧ double.order y x = some .eq ∧ a = b) ∨ (double.order x y = some .gt ∧ double.order y x = some .lt ∧ b ≤ a)
theorem stand_val {x y : Nat} {s t : Bool} {V U : Nat} (hx : Val x s V) (hy : Val y t U) : Stand x y (tenV s (rnd (10 * V))) (tenV t (rnd (10 * U))) := by
  unfold Stand
  rw [order_val hx hy, order_val hy hx]
  rcases Int.lt_trichotomy (sg s V) (sg t U) with h | h | h
  · left; exact ⟨by rw [cmp_lt h], by rw [cmp_gt h], ten_mono (by omega)⟩
  · right; left
    exact ⟨by rw [h, cmp_eq], by rw [h, cmp_eq], Int.le_antisymm (ten_mono (by omega)) (ten_mono (by omega))⟩
  · right; right; exact ⟨by rw [cmp_gt h], by rw [cmp_lt h], ten_mono (by omega)⟩

set_option maxRecDepth 100000 in
set_option maxHeartbeats 8000000 in
theorem Order_val (w : World) (x y : Nat) (he : Env w) (s t : Bool) (V U : Nat) (hx : Val x s V) (hy : Val y t U) :
    Calls Tryd.prog 4 #[.float .f64 x, .float .f64 y] w fun e w' => e = .returned (.bool true) ∧ Below w.heap.size w w' := by
  obtain ⟨z, a, hm, ha, ht1, ht2⟩ := ten_tests hx
  obtain ⟨b, hb⟩ : ∃ b, b = tenV t (rnd (10 * U)) := ⟨_, rfl⟩
  have hst := stand_val hx hy
  rw [← ha, ← hb] at hst
  have hra : -1099511627776 ≤ a ∧ a ≤ 1099511627776 := by rw [ha]; exact ten_range _ _
  have HA := Lib.hid (Tenths_val · x s V hx a ha)
  have HB := Lib.hid (Tenths_val · y t U hy b hb)
  have HE := Lib.hid he
  have o1 : FloatKind.f64.format.order x x = some .eq := val_self hx
  have o2 : FloatKind.f64.format.order y y = some .eq := val_self hy
  have hmul : ∀ ty w, (binOp .mul ty (.float .f64 x) (.float .f64 4621819117588971520)).run Tryd.prog w = .ok (.float .f64 z) w := fun ty w => run_float_arith w .mul ty .f64 x _ z hm
  have t1 : (FloatKind.f64.format.order (floatOfInt .f64 a) z = some .gt ∨ FloatKind.f64.format.order (floatOfInt .f64 a) z = some .eq ∨ (FloatKind.f64.format.order (floatOfInt .f64 a) z = some .lt ∧ a = 1099511627776)) := ht1
  have t2 : (FloatKind.f64.format.order (floatOfInt .f64 (a - 1)) z = some .lt ∨ (FloatKind.f64.format.order (floatOfInt .f64 (a - 1)) z = some .eq ∧ a = -1099511627776) ∨ (FloatKind.f64.format.order (floatOfInt .f64 (a - 1)) z = some .gt ∧ a = -1099511627776)) := ht2
  have st : (FloatKind.f64.format.order x y = some .lt ∧ FloatKind.f64.format.order y x = some .gt ∧ a ≤ b) ∨ (FloatKind.f64.format.order x y = some .eq ∧ FloatKind.f64.format.order y x = some .eq ∧ a = b) ∨ (FloatKind.f64.format.order x y = some .gt ∧ FloatKind.f64.format.order y x = some .lt ∧ b ≤ a) := hst
  have hra1 := hra.1
  have hra2 := hra.2
  clear hst hm ha hb hx hy he ht1 ht2 hra
  rcases st with ⟨s1, s2, s3⟩ | ⟨s1, s2, rfl⟩ | ⟨s1, s2, s3⟩
  all_goals
    rcases t1 with t1 | t1 | ⟨t1, rfl⟩
    all_goals
      rcases t2 with t2 | ⟨t2, t3⟩ | ⟨t2, t3⟩
      all_goals
        try (exfalso; exact absurd t3 (by decide))
      all_goals
        try subst t3
        try rw [show (-1099511627776 : Int) - 1 = -1099511627777 from rfl] at t2
        try rw [show (1099511627776 : Int) - 1 = 1099511627775 from rfl] at t2
        go_enter Tryd.func4, Tryd.ntmps4
        go_wp2_with fail
        refine (HA.out _).mono ?_; rintro e w1 ⟨rfl, rfl⟩
        go_wp2_with fail
        refine (HB.out _).mono ?_; rintro e w2 ⟨rfl, rfl⟩
        go_wp2_with fail
        refine (law01_alive _ HE.out).mono ?_; rintro e w3 ⟨rfl, k⟩
        go_wp2_with fail
        go_ret
        exact ⟨rfl, k⟩
theorem Order_walk (w : World) (x y : Nat) (he : Env w) : Calls Tryd.prog 4 #[.float .f64 x, .float .f64 y] w fun e w' => e = .returned (.bool true) ∧ Below w.heap.size w w' := by
  have hv : ∀ (x : Nat) (s : Bool) (V : Nat), Val x s V → ∀ w, Calls Tryd.prog 10 #[.float .f64 x] w fun e w' => e = .returned (.tuple #[.int .i64 (tenV s (rnd (10 * V))), .int .i64 0]) ∧ Below w.heap.size w w' := by
    intro x s V h w
    refine (Tenths_val w x s V h _ rfl).mono ?_
    rintro e w' ⟨rfl, rfl⟩
    exact ⟨rfl, Below.refl _ _⟩
  rcases read_cases x with ⟨s, V, hx⟩ | hx <;> rcases read_cases y with ⟨t, U, hy⟩ | hy
  · exact Order_val w x y he s t V U hx hy
  · exact Order_nan w x y he 0 2 _ _ (Or.inr ⟨rfl, rfl⟩) (Or.inl ⟨rfl, rfl⟩) (Or.inr rfl) (val_self hx) (nan_self hy) _ 0 (hv x s V hx) (fun w => Tenths_nan w y hy)
  · exact Order_nan w x y he 2 0 _ _ (Or.inl ⟨rfl, rfl⟩) (Or.inr ⟨rfl, rfl⟩) (Or.inl rfl) (nan_self hx) (val_self hy) 0 _ (fun w => Tenths_nan w x hx) (hv y t U hy)
  · exact Order_nan w x y he 2 2 _ _ (Or.inl ⟨rfl, rfl⟩) (Or.inl ⟨rfl, rfl⟩) (Or.inl rfl) (nan_self hx) (nan_self hy) 0 0 (fun w => Tenths_nan w x hx) (fun w => Tenths_nan w y hy)

set_option maxRecDepth 100000 in
theorem Order_lifted (os : Os) (started : os.Started) (H : Type) (enc : TypeId × Value → H) :
    ReturnsInHanded {} Tryd.checked os 4 .any (fun w args => (Rows.degreeOrderSpec.pre enc Tryd.prog Tryd.f4 Rows.degreeOrderRow.domain false w args ∧ laidMet Tryd.prog laidList w) ∧ sizedMet enc Tryd.prog Tryd.f4 (OpenSpec.ofChange Rows.degreeOrderSpec) false w args)
      (Rows.degreeOrderSpec.post enc Tryd.prog Tryd.f4 false true false false) := by
  refine returnsInHanded_of_change_and (C := Tryd.checked) (X := fun w _ => laidMet Tryd.prog laidList w) (fun _ _ _ hh h => h.of_heap hh) own started (by kernel_rfl) Tryd.func4
    (ChangeSpec.witness_at (enc := enc) (C := Tryd.checked) (os := os) (X := fun w _ => laidMet Tryd.prog laidList w) false (laidWorld os) #[.float .f64 0, .float .f64 0] 8 rfl (by kernel_rfl) (by kernel_rfl) (by kernel_rfl) (by kernel_rfl) (by kernel_rfl) (laidWorld_met os _)) ?_
  intro W base args ds gs before hval0 hW _ hsz0 hL _
  have hval : ∀ (j : Nat) t v, Tryd.f4.params[j]? = some t → args[j]? = some v → Value.okWide Tryd.prog W .any base t v := hval0
  clear hsz0
  have hW' := hW
  obtain ⟨p, q, hA0, hV, rfl, _, _⟩ := hW
  have hA : DataW.TrodAll enc Tryd.prog W 0 (fun _ => true) true Tryd.f4.params.toList args.toList ds p := hA0
  rw [Tryd.params4] at hA hval
  obtain ⟨v0, v1, d0, d1, p0, p1, rfl, rfl, rfl, h0, h1⟩ := trodAll_two hA
  obtain ⟨rfl, rfl⟩ := trodVars_none hV
  obtain ⟨x, rfl, rfl, rfl, wx⟩ := open_float Tryd.underlying28 (hval 0 28 v0 rfl rfl) h0
  obtain ⟨y, rfl, rfl, rfl, wy⟩ := open_float Tryd.underlying28 (hval 1 28 v1 rfl rfl) h1
  clear hA0 hval0
  refine (Order_walk W x y (env_of_laid hL)).mono fun e W' ⟨he, hnx⟩ => ?_
  subst he
  simp only [List.append_nil] at hW'
  refine ⟨_, rfl, _, _, _, [], [], [], hW', ?_, ?_, rfl, hnx.frame _, fun h => by cases h⟩
  · exact trodAll_mk1 (shut_bool Tryd.underlying4 true)
  · exact trodAll_mk2 (shut_float Tryd.underlying28 wx) (shut_float Tryd.underlying28 wy)

theorem DegreeOrder_row : Rows.DegreeOrderSaid :=
  OpenClaim.holds_of_wide 4 Tryd.f4 rfl rfl rfl rfl rfl rfl rfl ⟨rfl, rfl, rfl, rfl, rfl⟩ rfl rfl rfl rfl rfl (by kernel_rfl) Tryd.func4 (by kernel_rfl)
    (of_decide_eq_true (by kernel_rfl)) (by unfold Func.isWrapper; first | (rw [if_pos (by decide +kernel)]; kernel_rfl) | (rw [if_neg (by decide +kernel)]; exact ⟨rfl, rfl⟩))
    (fun os started H enc _ => Order_lifted os started H enc)
theorem DegreeOrder_holds : Rows.DegreeOrderCardSaid :=
  Claim7.holds_tied_plain_at .later [] [.data, .data, .data, .sentinel, .sentinel] true (Rows.degreeOrderCard.stood.harness) true
    DegreeOrder_row (fun _ h => by cases h) (by kernel_rfl) (fun _ h => by cases h) degreeOrder_row_tie rfl ⟨rfl, rfl⟩ (by kernel_rfl) rfl
    (fun f fn hf hfn => by
      obtain rfl : f = 4 := Option.some.inj ((show Tryd.prog.funcNamed "hoarfrost/hoarfrostlaw01.DegreeOrder" = some 4 by kernel_rfl).symm.trans hf) |>.symm
      obtain rfl : fn = Tryd.f4 := (Option.some.inj (Tryd.func4.symm.trans hfn)).symm
      exact ⟨by kernel_rfl, fun j t ht => by
        rw [Tryd.params4] at ht
        have hm : t ∈ [28] := by simpa using Array.mem_of_getElem? ht
        have hall : ([28].all fun u => !Tryd.prog.wantsStandIn u) = true := by kernel_rfl
        exact (show Tryd.prog.wantsStandIn t = false by simpa using List.all_eq_true.1 hall t hm)⟩)
    (by kernel_rfl)
end Go.Proofs.YtlnlbnpabaddkaaDoor
