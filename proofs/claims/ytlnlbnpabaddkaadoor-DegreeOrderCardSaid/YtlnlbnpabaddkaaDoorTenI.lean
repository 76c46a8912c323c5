/-
  degree.Of and the reference's Of give the same at any bits.
-/
import Derived.Test.YtlnlbnpabaddkaaDoorTenH
import Derived.Test.YtlnlbnpabaddkaaDoorTenE
namespace Go.Proofs.YtlnlbnpabaddkaaDoor
open Go.RowKit Ieee
set_option exponentiation.threshold 3000

theorem tenV_sign (s : Bool) (V : Nat) : tenV s V = signI s (tenV s V).natAbs := by
  unfold tenV signI sg
  split <;> cases s <;> simp
theorem mul_pow_le {x a b : Nat} (h : 2 ^ 52 ≤ x) (h2 : a ≤ b) : 2 ^ (52 + a) ≤ x * 2 ^ b := by
  rw [Nat.pow_add]
  exact Nat.mul_le_mul h (Nat.pow_le_pow_right (by omega) h2)
theorem retP_eq {X Y : Int} (h : X = Y) : Ending.returned (.tuple #[.int .i64 X, .int .i64 0]) = .returned (retP (some Y)) := by rw [h]; rfl
theorem sign_top (s : Bool) : signI s (2 ^ 40) = if s then -1099511627776 else 1099511627776 := by cases s <;> rfl
/-- the tenths of a word, or none -/
def ofV (b : Nat) : Option Int :=
  if b / 2 ^ 52 % 2048 = 2047 then (if b % 2 ^ 52 = 0 then some (signI (decide (2 ^ 63 ≤ b)) (2 ^ 40)) else none)
  else some (tenV (decide (2 ^ 63 ≤ b)) (rnd (10 * valr (b % 2 ^ 63))))

theorem ref01_Of (w : World) (b : Nat) (hb : b < 2 ^ 64) : Calls Tryd.prog 8 #[.int .u64 b] w fun e w' => e = .returned (retP (ofV b)) ∧ w = w' := by
  have c1 : (b : Int) / 4503599627370496 % 2048 = ((b / 2 ^ 52 % 2048 : Nat) : Int) := by omega
  have c2 : (b : Int) % 4503599627370496 = ((b % 2 ^ 52 : Nat) : Int) := by omega
  have r1 : b % 2 ^ 63 / 2 ^ 52 = b / 2 ^ 52 % 2048 := by omega
  have r2 : b % 2 ^ 63 % 2 ^ 52 = b % 2 ^ 52 := by omega
  unfold ofV
  by_cases hE : b / 2 ^ 52 % 2048 = 2047
  · rw [if_pos hE]
    by_cases hM : b % 2 ^ 52 = 0
    · rw [if_pos hM]
      exact ref01_Of_big w b _ _ _ hb c1 c2 rfl (by omega) (fun _ => hM)
    · rw [if_neg hM]
      exact ref01_Of_nan w b hb (by omega) (by rw [bne_iff_ne]; omega)
  · rw [if_neg hE]
    by_cases h0 : b / 2 ^ 52 % 2048 = 0
    · have hv : valr (b % 2 ^ 63) = b % 2 ^ 52 * 2 ^ (1 - 1) := by
        unfold valr; rw [if_pos (by omega)]; simp; omega
      refine (ref01_Of_sub w b _ (b % 2 ^ 52) (by omega) (by omega) hb rfl).mono ?_
      rintro e w' ⟨rfl, rfl⟩
      refine ⟨retP_eq ?_, rfl⟩
      rw [Of_plain _ 1 _ (by omega) (by omega) (by omega), ← hv, ← tenV_sign]
    · have hv : valr (b % 2 ^ 63) = (b % 2 ^ 52 + 2 ^ 52) * 2 ^ (b / 2 ^ 52 % 2048 - 1) := by
        unfold valr; rw [if_neg (by omega), r1, r2, Nat.add_comm]
      by_cases h1 : b / 2 ^ 52 % 2048 < 1130
      · refine (ref01_Of_norm w b _ (b / 2 ^ 52 % 2048) (b % 2 ^ 52) _ c1 c2 (by omega) h1 rfl hb rfl).mono ?_
        rintro e w' ⟨rfl, rfl⟩
        refine ⟨retP_eq ?_, rfl⟩
        rw [Of_plain _ _ _ (by omega) (by omega) (by omega), ← hv, ← tenV_sign]
      · refine (ref01_Of_big w b _ _ _ hb c1 c2 rfl (by omega) (fun h => absurd h hE)).mono ?_
        rintro e w' ⟨rfl, rfl⟩
        refine ⟨retP_eq ?_, rfl⟩
        have hV : 2 ^ 1114 ≤ rnd (10 * valr (b % 2 ^ 63)) := by
          apply rnd_ge
          rw [hv]
          have := mul_pow_le (x := b % 2 ^ 52 + 2 ^ 52) (a := 1129) (b := b / 2 ^ 52 % 2048 - 1) (by omega) (by omega)
          exact Nat.le_trans (Nat.pow_le_pow_right (by omega) (by omega)) (Nat.le_trans this (by omega))
        unfold tenV
        rw [if_pos hV, sign_top]
theorem sign_bit (b : Nat) (hb : b < 2 ^ 64) : (b / 2 ^ 63 % 2 == 1) = decide (2 ^ 63 ≤ b) := by
  rw [Bool.eq_iff_iff, beq_iff_eq, decide_eq_true_iff]; omega
/-- degree.Tenths by the word -/
theorem degree_Tenths_word (w : World) (b : Nat) (hb : b < 2 ^ 64) : Calls Tryd.prog 10 #[.float .f64 b] w fun e w' => e = .returned (retP (ofV b)) ∧ Below w.heap.size w w' := by
  unfold ofV
  by_cases hE : b / 2 ^ 52 % 2048 = 2047
  · rw [if_pos hE]
    have hr1 : ¬ b % 2 ^ 63 < 2 ^ 52 := by omega
    have hr2 : ¬ b % 2 ^ 63 < 2047 * 2 ^ 52 := by omega
    by_cases hM : b % 2 ^ 52 = 0
    · rw [if_pos hM]
      have hd : double.read b = .infinity (decide (2 ^ 63 ≤ b)) := by
        unfold Format.read
        simp only [sign_eq, binade_eq, inf_eq, leastPlace_eq, sign_bit b hb]
        rw [if_neg hr1, if_neg hr2, if_pos (by omega)]
      refine (degree_Tenths_inf w b _ hd).mono ?_
      rintro e w' ⟨rfl, rfl⟩
      exact ⟨retP_eq (sign_top _).symm, Below.refl _ _⟩
    · rw [if_neg hM]
      have hd : ∃ s t, double.read b = .nan s t := by
        unfold Format.read
        simp only [sign_eq, binade_eq, inf_eq, leastPlace_eq, sign_bit b hb]
        rw [if_neg hr1, if_neg hr2, if_neg (by omega)]
        exact ⟨_, _, rfl⟩
      obtain ⟨s, t, hd⟩ := hd
      refine (degree_Tenths_nan w b s t hd).mono ?_
      rintro e w' ⟨rfl, rfl⟩
      exact ⟨rfl, (Below.refl _ _).drew⟩
  · rw [if_neg hE]
    have hf := read_number b _ (sign_bit b hb) (by omega)
    refine (degree_Tenths w b _ _ hf).mono ?_
    rintro e w' ⟨rfl, rfl⟩
    exact ⟨retP_eq rfl, Below.refl _ _⟩
theorem degree_Of (w : World) (b : Nat) (hb : b < 2 ^ 64) : Calls Tryd.prog 7 #[.int .u64 b] w fun e w' => e = .returned (retP (ofV b)) ∧ Below w.heap.size w w' := by
  have hf := fun w => math_Float64frombits w (b : Int)
  obtain ⟨V, hV⟩ : ∃ V, V = retP (ofV b) := ⟨_, rfl⟩
  rw [← hV]
  obtain ⟨x, y, hxy⟩ : ∃ x y, V = .tuple #[.int .i64 x, .int .i64 y] := ⟨_, _, hV⟩
  subst hxy
  have HV := Lib.hid hV
  clear hV
  go_enter Tryd.func7, Tryd.ntmps7
  go_wp2_with (go_at_call 10; refine (degree_Tenths_word _ b hb).mono ?_; rw [← HV.out]; rintro e w1 ⟨rfl, hk⟩)
  go_ret2
  exact ⟨rfl, hk⟩
end Go.Proofs.YtlnlbnpabaddkaaDoor
