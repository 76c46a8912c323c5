/-
  degree.Tenths of a NaN; degree.Of at any bits.
-/
import Derived.Test.YtlnlbnpabaddkaaDoorTenB
namespace Go.Proofs.YtlnlbnpabaddkaaDoor
open Go.RowKit Ieee

set_option maxRecDepth 100000 in
theorem degree_Tenths_nan (w : World) (x : Nat) (s : Bool) (t : Nat) (h : double.read x = .nan s t) :
    Calls Tryd.prog 10 #[.float .f64 x] w fun e w' => e = .returned (.tuple #[.int .i64 0, .int .i64 2]) ∧ w.drew = w' := by
  have hx : double.order x x = none := by unfold Format.order; rw [h]; rfl
  have hm : FloatKind.f64.format.mul x 4621819117588971520 = none := by
    show double.mul x TEN = none
    unfold Format.mul; rw [h]; rfl
  have hmul : ∀ t w, ∃ z, (binOp .mul t (.float .f64 x) (.float .f64 4621819117588971520)).run Tryd.prog w = .ok (.float .f64 z) w.drew := by
    intro t w
    refine ⟨(Question.nanBits .f64 x 4621819117588971520).cut (w.tape w.drawn (.nanBits .f64 x 4621819117588971520)), ?_⟩
    have hf : (Question.nanBits .f64 x 4621819117588971520).forced = false := rfl
    simp [binOp, Op.floatArith, hm, hf]
  clear hm h
  obtain ⟨z, hz⟩ := hmul 28 w
  clear hmul
  go_enter Tryd.func10, Tryd.ntmps10
  go_wp2_with (go_at_call 19; refine (math_IsNaN _ x).mono ?_; rw [hx]; rintro e w1 ⟨rfl, rfl⟩)
  go_ret2
  exact ⟨rfl, rfl⟩
end Go.Proofs.YtlnlbnpabaddkaaDoor
