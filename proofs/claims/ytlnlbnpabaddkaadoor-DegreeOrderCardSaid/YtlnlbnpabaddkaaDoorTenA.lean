/-
  Contracts of package degree: Tenths, Of, Float.
-/
import Derived.Test.YtlnlbnpabaddkaaDoorFloatC
import Derived.Test.YtlnlbnpabaddkaaDoorProg
import Derived.WalkKit
import Derived.BigCall
import Derived.WalkLawsBesides
import Derived.Laws.FloatArith
import Derived.Laws.Externs
import Derived.Lib.Hide
import GoSem.Extern.MathFloor
import GoSem.Extern.MathFloatBits
namespace Go.Proofs.YtlnlbnpabaddkaaDoor
open Go.RowKit Ieee
set_option exponentiation.threshold 3000

theorem math_IsNaN (w : World) (x : Nat) : Calls Tryd.prog 19 #[.float .f64 x] w fun e w' => e = .returned (.bool (double.order x x != some .eq)) ∧ w = w' := by
  go_enter Tryd.func19, Tryd.ntmps19
  go_wp2
  go_ret
  exact ⟨rfl, rfl⟩
theorem run_archCeil (w : World) (y : Nat) (s : Bool) (V : Nat) (h : Fin (double.read y) s V) :
    (callFunc 28 #[.float .f64 y]).run Tryd.prog w = .ok (.value (.float .f64 (double.write (.number s (ceilV s V) 0)))) w := by
  rw [run_callFunc_extern Tryd.func28 (by kernel_rfl) (by kernel_rfl) (by kernel_rfl) (e := Extern.MathFloor.toIntegral "math.archCeil" .up) (by kernel_rfl)]
  have hc := ceil_fin h
  obtain ⟨m, i, hd, _, _⟩ := h
  have hd' : FloatKind.f64.decode y = .number s m i := hd
  rw [hd] at hc
  have key : Extern.MathFloor.toIntegral "math.archCeil" .up #[.float .f64 y] = pure (.float .f64 (FloatKind.f64.encode ((Datum.number s m i).integral .up))) := by
    refine Eq.trans (b := Extern.MathFloor.toIntegral.match_1 (fun _ => Sem Value) (FloatKind.f64.decode y) (fun s t => _) (fun d => pure (.float .f64 (FloatKind.f64.encode (d.integral .up))))) (by rfl) ?_
    rw [hd']
  rw [key, hc]
  rfl
theorem math_Ceil (w : World) (y : Nat) (s : Bool) (V : Nat) (h : Fin (double.read y) s V) :
    Calls Tryd.prog 20 #[.float .f64 y] w fun e w' => e = .returned (.float .f64 (double.write (.number s (ceilV s V) 0))) ∧ w = w' := by
  have hr := fun w => run_archCeil w y s V h
  clear h
  go_enter Tryd.func20, Tryd.ntmps20
  go_wp2
  go_ret
  exact ⟨rfl, rfl⟩
theorem math_Float64frombits (w : World) (n : Int) : (callFunc 16 #[.int .u64 n]).run Tryd.prog w = .ok (.value (.float .f64 n.toNat)) w := by
  rw [run_callFunc_extern Tryd.func16 (by kernel_rfl) (by kernel_rfl) (by kernel_rfl) (e := Extern.MathFloatBits.float64frombits) (by kernel_rfl)]
  rfl

/-- the tenths of V units -/
def tenV (s : Bool) (V : Nat) : Int := if 2 ^ 1114 ≤ V then (if s then -1099511627776 else 1099511627776) else sg s (ceilV s V)

theorem ceil_small {s : Bool} {V : Nat} (h : V < 2 ^ 1114) : ceilV s V ≤ 2 ^ 40 := by
  have e : (2 : Nat) ^ 1114 = 2 ^ 40 * 2 ^ 1074 := pow_split 40 1074 rfl
  rw [e] at h
  have h1 : V / 2 ^ 1074 < 2 ^ 40 := (Nat.div_lt_iff_lt_mul (Nat.two_pow_pos _)).2 h
  unfold ceilV
  split <;> omega

set_option maxRecDepth 100000 in
theorem Tenths_hi (w : World) (x y : Nat) (hx : double.order x x = some .eq) (hm : double.mul x TEN = some y) (h1 : double.order y TOP = some .gt ∨ double.order y TOP = some .eq) :
    Calls Tryd.prog 10 #[.float .f64 x] w fun e w' => e = .returned (.tuple #[.int .i64 1099511627776, .int .i64 0]) ∧ w = w' := by
  have hmul : ∀ t w, (binOp .mul t (.float .f64 x) (.float .f64 4621819117588971520)).run Tryd.prog w = .ok (.float .f64 y) w := fun t w => run_float_arith w .mul t .f64 x _ y hm
  have o1 : FloatKind.f64.format.order y 4787326403894837248 = some .gt ∨ FloatKind.f64.format.order y 4787326403894837248 = some .eq := h1
  clear h1 hm
  rcases o1 with o1 | o1
  all_goals
    go_enter Tryd.func10, Tryd.ntmps10
    go_wp2_with (go_at_call 19; refine (math_IsNaN _ x).mono ?_; rw [hx]; rintro e w1 ⟨rfl, rfl⟩)
    go_ret2
    exact ⟨rfl, rfl⟩
set_option maxRecDepth 100000 in
theorem Tenths_lo (w : World) (x y : Nat) (hx : double.order x x = some .eq) (hm : double.mul x TEN = some y) (h1 : double.order y TOP = some .lt) (h2 : double.order y NOP = some .lt ∨ double.order y NOP = some .eq) :
    Calls Tryd.prog 10 #[.float .f64 x] w fun e w' => e = .returned (.tuple #[.int .i64 (-1099511627776), .int .i64 0]) ∧ w = w' := by
  have hmul : ∀ t w, (binOp .mul t (.float .f64 x) (.float .f64 4621819117588971520)).run Tryd.prog w = .ok (.float .f64 y) w := fun t w => run_float_arith w .mul t .f64 x _ y hm
  have o1 : FloatKind.f64.format.order y 4787326403894837248 = some .lt := h1
  have o2 : FloatKind.f64.format.order y 14010698440749613056 = some .lt ∨ FloatKind.f64.format.order y 14010698440749613056 = some .eq := h2
  clear h1 hm h2
  rcases o2 with o2 | o2
  all_goals
    go_enter Tryd.func10, Tryd.ntmps10
    go_wp2_with (go_at_call 19; refine (math_IsNaN _ x).mono ?_; rw [hx]; rintro e w1 ⟨rfl, rfl⟩)
    go_ret2
    exact ⟨rfl, rfl⟩
theorem to_int (s : Bool) (c : Nat) (h : c ≤ 2 ^ 40) : floatToIntVal .f64 (double.write (.number s c 0)) .i64 = some (sg s c) := by
  have h1 := toInt_fin (enc_int s (c := c) (by omega))
  rw [Nat.mul_div_cancel _ (Nat.two_pow_pos 1074)] at h1
  have h2 : (FloatKind.f64.decode (double.write (.number s c 0))).toInt .zero = some (sg s c) := h1
  unfold floatToIntVal
  simp only [h2]
  rw [if_pos]
  have e1 : IntKind.i64.min = -9223372036854775808 := rfl
  have e2 : IntKind.i64.max = 9223372036854775807 := rfl
  rw [e1, e2]
  unfold sg
  split <;> omega
set_option maxRecDepth 100000 in
theorem Tenths_mid (w : World) (x y : Nat) (s : Bool) (V : Nat) (hx : double.order x x = some .eq) (hm : double.mul x TEN = some y) (h1 : double.order y TOP = some .lt) (h2 : double.order y NOP = some .gt) (hy : Fin (double.read y) s V) (hV : V < 2 ^ 1114) :
    Calls Tryd.prog 10 #[.float .f64 x] w fun e w' => e = .returned (.tuple #[.int .i64 (sg s (ceilV s V)), .int .i64 0]) ∧ w = w' := by
  have hmul : ∀ t w, (binOp .mul t (.float .f64 x) (.float .f64 4621819117588971520)).run Tryd.prog w = .ok (.float .f64 y) w := fun t w => run_float_arith w .mul t .f64 x _ y hm
  have o1 : FloatKind.f64.format.order y 4787326403894837248 = some .lt := h1
  have o2 : FloatKind.f64.format.order y 14010698440749613056 = some .gt := h2
  have hcv : ∀ w, (convert 28 3 (.float .f64 (double.write (.number s (ceilV s V) 0)))).run Tryd.prog w = .ok (.int .i64 (sg s (ceilV s V))) w :=
    fun w => run_convert_float_int w _ _ .f64 .i64 _ _ (by rw [Tryd.underlying28]; rfl) Tryd.underlying3 (to_int s _ (ceil_small hV))
  have HY := Lib.hid hy
  clear h1 hm h2 hy hV
  go_enter Tryd.func10, Tryd.ntmps10
  go_wp2_with (first
    | (go_at_call 19; refine (math_IsNaN _ x).mono ?_; rw [hx]; rintro e w1 ⟨rfl, rfl⟩)
    | (go_at_call 20; refine (math_Ceil _ y s V HY.out).mono ?_; rintro e w1 ⟨rfl, rfl⟩))
  go_ret2
  exact ⟨rfl, rfl⟩
end Go.Proofs.YtlnlbnpabaddkaaDoor
