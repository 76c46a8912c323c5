/-
  Contracts of package degree: Float; the law DegreeBack's walk.
-/
import Derived.Test.YtlnlbnpabaddkaaDoorFloatF
import Derived.Test.YtlnlbnpabaddkaaDoorTenJ
namespace Go.Proofs.YtlnlbnpabaddkaaDoor
open Go.RowKit Ieee
set_option exponentiation.threshold 3000

theorem read_norm {b : Nat} {s : Bool} {m : Nat} {i : Int} (h : double.read b = .number s m i) : i = -1074 ∨ 2 ^ 52 ≤ m := by
  unfold Format.read at h
  simp only [binade_eq, leastPlace_eq] at h
  split at h
  · cases h; exact Or.inl rfl
  · split at h
    · cases h; right; omega
    · split at h <;> cases h
/-- a whole number's word, by ten -/
theorem float_div (t : Int) (hb : -4294967296 ≤ t ∧ t ≤ 4294967296) : ∃ f s X, double.div (double.write (.number (decide (t < 0)) t.natAbs 0)) TEN = some f ∧ Fin (double.read f) s X ∧ Floats t s X := by
  by_cases h0 : t = 0
  · subst h0
    refine ⟨0, false, 0, by decide, ⟨0, -1074, by decide, by omega, by simp⟩, rfl, fun _ => rfl, fun h => absurd rfl h⟩
  · obtain ⟨m, i, hr, hi, hm⟩ := enc_int (decide (t < 0)) (c := t.natAbs) (by omega)
    have hs := read_small hr
    have hp := Nat.two_pow_pos 1074
    have hc : 2 ^ 1074 ≤ t.natAbs * 2 ^ 1074 := Nat.le_mul_of_pos_left _ (by omega)
    have h53 : (2 : Nat) ^ 53 ≤ 2 ^ 1074 := Nat.pow_le_pow_right (by omega) (by omega)
    have hn : i ≠ -1074 := by
      rintro rfl
      have e : ((-1074 : Int) + 1074).toNat = 0 := by decide
      rw [e, Nat.pow_zero, Nat.mul_one] at hm
      omega
    have hn2 : 2 ^ 52 ≤ m := by
      rcases read_norm hr with h | h
      · exact absurd h hn
      · exact h
    have hi1 : -200 ≤ i := by
      rcases Int.lt_or_le i (-200) with h | h
      · exfalso
        have g1 : 2 ^ (i + 1074).toNat ≤ 2 ^ 874 := Nat.pow_le_pow_right (by omega) (by omega)
        have g2 : m * 2 ^ (i + 1074).toNat ≤ 2 ^ 53 * 2 ^ 874 := Nat.mul_le_mul (by omega) g1
        rw [← Nat.pow_add] at g2
        have g3 : (2 : Nat) ^ (53 + 874) < 2 ^ 1074 := Nat.pow_lt_pow_right (by omega) (by omega)
        omega
      · exact h
    have hi2 : i ≤ 0 := by
      rcases Int.lt_or_le 0 i with h | h
      · exfalso
        have g1 : 2 ^ 1074 ≤ 2 ^ (i + 1074).toNat := Nat.pow_le_pow_right (by omega) (by omega)
        have g2 : 2 ^ 52 * 2 ^ 1074 ≤ m * 2 ^ (i + 1074).toNat := Nat.mul_le_mul hn2 g1
        have g3 : t.natAbs * 2 ^ 1074 ≤ 2 ^ 33 * 2 ^ 1074 := Nat.mul_le_mul_right _ (by omega)
        omega
      · exact h
    obtain ⟨f, X, h1, h2, h3⟩ := div_ten hr (by omega) hi1 hi2
    rw [hm] at h3
    exact ⟨f, _, X, h1, h2, rfl, fun h => absurd h h0, fun _ => h3⟩

theorem degree_Float (w : World) (t : Int) (hb : -4294967296 ≤ t ∧ t ≤ 4294967296) (f : Nat) (hf : double.div (double.write (.number (decide (t < 0)) t.natAbs 0)) TEN = some f) : Calls Tryd.prog 15 #[.int .i64 t] w fun e w' => e = .returned (.float .f64 f) ∧ w = w' := by
  have hr : (decide (-1099511627776 ≤ t) && decide (t ≤ 1099511627776)) = true := by
    rw [Bool.and_eq_true, decide_eq_true_iff, decide_eq_true_iff]; omega
  have hq : ∀ ty w, (binOp .quo ty (.float .f64 (floatOfInt .f64 t)) (.float .f64 4621819117588971520)).run Tryd.prog w = .ok (.float .f64 f) w := fun ty w => run_float_arith w .quo ty .f64 _ _ f hf
  clear hf
  go_enter Tryd.func15, Tryd.ntmps15
  go_wp2_with (go_at_call 22; refine (degree_right _ t).mono ?_; rw [hr]; rintro e w1 ⟨rfl, rfl⟩)
  go_ret
  exact ⟨rfl, rfl⟩
theorem Tenths_fin (w : World) (x : Nat) (s : Bool) (V : Nat) (h : Fin (double.read x) s V) (n : Int) (hn : tenV s (rnd (10 * V)) = n) :
    Calls Tryd.prog 10 #[.float .f64 x] w fun e w' => e = .returned (.tuple #[.int .i64 n, .int .i64 0]) ∧ w = w' := by
  rw [← hn]; exact degree_Tenths w x s V h
end Go.Proofs.YtlnlbnpabaddkaaDoor
