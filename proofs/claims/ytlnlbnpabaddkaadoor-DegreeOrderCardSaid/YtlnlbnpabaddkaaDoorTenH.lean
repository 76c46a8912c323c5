/-
  The reference's Of: its walk.
-/
import Derived.Test.YtlnlbnpabaddkaaDoorTenG
namespace Go.Proofs.YtlnlbnpabaddkaaDoor
open Go.RowKit Ieee
set_option exponentiation.threshold 3000

theorem ref01_Of_nan (w : World) (b : Nat) (hb : b < 2 ^ 64) (hE : (b : Int) / 4503599627370496 % 2048 = 2047) (hM : ((b : Int) % 4503599627370496 != 0) = true) :
    Calls Tryd.prog 8 #[.int .u64 b] w fun e w' => e = .returned (.tuple #[.int .i64 0, .int .i64 2]) ∧ w = w' := by
  go_enter Tryd.func8, Tryd.ntmps8
  go_wp2
  go_ret2
  exact ⟨rfl, rfl⟩

def signI (s : Bool) (n : Nat) : Int := if s then -(n : Int) else n

set_option maxRecDepth 100000 in
theorem ref01_Of_big (w : World) (b E M : Nat) (s : Bool) (hb : b < 2 ^ 64) (hE : (b : Int) / 4503599627370496 % 2048 = (E : Int)) (hM : (b : Int) % 4503599627370496 = (M : Int)) (hs : s = decide (2 ^ 63 ≤ b)) (h1 : 1130 ≤ E)
    (h2 : E = 2047 → M = 0) : Calls Tryd.prog 8 #[.int .u64 b] w fun e w' => e = .returned (.tuple #[.int .i64 (signI s (2 ^ 40)), .int .i64 0]) ∧ w = w' := by
  have hM2 : (M : Int) < 4503599627370496 := by omega
  have hE2 : (E : Int) < 2048 := by omega
  have h1' : ¬ (E : Int) < 1130 := by omega
  have h3 : ((E : Int) == 0) = false := by rw [beq_eq_false_iff_ne]; omega
  have h4 : (((E : Int) == 2047) && ((M : Int) != 0)) = false := by
    by_cases h : E = 2047
    · rw [h2 h]; simp
    · have : ((E : Int) == 2047) = false := by rw [beq_eq_false_iff_ne]; omega
      rw [this]; rfl
  by_cases h5 : E = 2047
  · have h6 := h2 h5
    subst h5 h6
    by_cases hS : 2 ^ 63 ≤ b
    · have : s = true := by rw [hs]; simp [hS]
      subst this
      clear hs
      have hS' : (9223372036854775808 : Int) ≤ b := by omega
      clear hS
      go_enter Tryd.func8, Tryd.ntmps8
      go_wp2
      go_ret2
      exact ⟨rfl, rfl⟩
    · have : s = false := by rw [hs]; simp [hS]
      subst this
      clear hs
      have hS' : decide ((9223372036854775808 : Int) ≤ b) = false := by rw [decide_eq_false_iff_not]; omega
      clear hS
      go_enter Tryd.func8, Tryd.ntmps8
      go_wp2
      go_ret2
      exact ⟨rfl, rfl⟩
  · have h7 : ((E : Int) == 2047) = false := by rw [beq_eq_false_iff_ne]; omega
    clear h2 h4 h5
    by_cases hS : 2 ^ 63 ≤ b
    · have : s = true := by rw [hs]; simp [hS]
      subst this
      clear hs
      have hS' : (9223372036854775808 : Int) ≤ b := by omega
      clear hS
      go_enter Tryd.func8, Tryd.ntmps8
      go_wp2
      go_ret2
      exact ⟨rfl, rfl⟩
    · have : s = false := by rw [hs]; simp [hS]
      subst this
      clear hs
      have hS' : decide ((9223372036854775808 : Int) ≤ b) = false := by rw [decide_eq_false_iff_not]; omega
      clear hS
      go_enter Tryd.func8, Tryd.ntmps8
      go_wp2
      go_ret2
      exact ⟨rfl, rfl⟩
theorem rq_le (W : Nat) : rq W ≤ 2 ^ 53 := by
  by_cases h : W < 2 ^ 53
  · have := (rnd_small h).2; unfold rung at this; rw [rn_zero h] at this; omega
  · exact (rq_bounds (W := W) (by omega)).2.1
theorem rn_le (W : Nat) (h : W < 2 ^ 57) : rn W ≤ 4 := by
  have hr := rn_wd W
  have : wd W ≤ 57 := by
    unfold wd
    split
    · omega
    · have := (Nat.log2_lt (n := W) (k := 57) (by omega)).2 h; omega
  split at hr <;> omega
theorem wholeV_le (q : Nat) (e : Int) (s : Bool) (hq : q ≤ 2 ^ 53) : wholeV q e s ≤ 2 ^ 63 := by
  unfold wholeV
  split
  · split
    · omega
    · split
      · omega
      · have : q * 2 ^ e.toNat ≤ 2 ^ 53 * 2 ^ 9 := Nat.mul_le_mul hq (Nat.pow_le_pow_right (by omega) (by omega))
        omega
  · split
    · split <;> omega
    · have := Nat.div_le_self q (2 ^ (-e).toNat)
      split <;> omega
set_option maxRecDepth 100000 in
theorem ref01_Of_norm (w : World) (b : Nat) (S : Bool) (E M m : Nat) (hE : (b : Int) / 4503599627370496 % 2048 = (E : Int)) (hM : (b : Int) % 4503599627370496 = (M : Int)) (h0 : 1 ≤ E) (h1 : E < 1130) (hm : m = M + 2 ^ 52) (hb : b < 2 ^ 64) (hs : S = decide (2 ^ 63 ≤ b)) :
    Calls Tryd.prog 8 #[.int .u64 b] w fun e w' => e = .returned (.tuple #[.int .i64 (signI S (min (wholeV (rq (10 * m)) (((E : Nat) : Int) - 1075 + rn (10 * m)) S) (2 ^ 40))), .int .i64 0]) ∧ w = w' := by
  have hM2 : (M : Int) < 4503599627370496 := by omega
  have g0 : (1 : Int) ≤ E := by omega
  have g1 : (E : Int) < 1130 := by omega
  have h3 : ((E : Int) == 0) = false := by rw [beq_eq_false_iff_ne]; omega
  have h4 : ((E : Int) == 2047) = false := by rw [beq_eq_false_iff_ne]; omega
  have HT : Hid ((10 : Int) * ((M : Int) + 4503599627370496) = ((10 * m : Nat) : Int)) := by unfold Hid; omega
  obtain ⟨q, hq⟩ : ∃ q, q = rq (10 * m) := ⟨_, rfl⟩
  obtain ⟨n, hn⟩ : ∃ n, n = rn (10 * m) := ⟨_, rfl⟩
  have hql : q ≤ 2 ^ 53 := by rw [hq]; exact rq_le _
  have hnl : n ≤ 4 := by rw [hn]; exact rn_le _ (by omega)
  have hnl2 : (n : Int) ≤ 4 := by omega
  have hm57 : m < 2 ^ 53 := by omega
  have hm53 : (m : Int) < 2 ^ 53 := by omega
  obtain ⟨i, hi⟩ : ∃ i : Int, i = (((E : Nat) : Int)) - 1075 + n := ⟨_, rfl⟩
  have HI : Hid ((E : Int) - 1075 + (n : Int) = i) := by unfold Hid; omega
  rw [← hq, ← hn, ← hi]
  obtain ⟨W, hW⟩ : ∃ W, W = wholeV q i S := ⟨_, rfl⟩
  rw [← hW]
  have hWl : (W : Int) ≤ 9223372036854775808 := by have := wholeV_le q i S hql; omega
  have hi1 : i ≤ 60 := by omega
  have hi2 : -1074 ≤ i := by omega
  have HW := Lib.hid hW
  have HQ := Lib.hid hq
  have HN := Lib.hid hn
  clear hi hW hq hn
  clear hm h0 h1
  by_cases hX : W ≤ 2 ^ 40
  all_goals
    first
      | (have hX1 : decide ((1099511627776 : Int) < W) = false := by rw [decide_eq_false_iff_not]; omega)
      | (have hX1 : decide ((1099511627776 : Int) < W) = true := by rw [decide_eq_true_iff]; omega)
    first
      | (have hX : min W (2 ^ 40) = W := by omega)
      | (have hX : min W (2 ^ 40) = 2 ^ 40 := by omega)
    rw [hX]
    clear hX
    cases S
    · have hS' : decide ((9223372036854775808 : Int) ≤ b) = false := by rw [decide_eq_false_iff_not]; have := of_decide_eq_false hs.symm; omega
      clear hs
      go_enter Tryd.func8, Tryd.ntmps8
      go_wp2_with fail
      rw [HT.out]
      refine (ref01_near _ (10 * m) (by omega)).mono ?_
      rw [← HQ.out, ← HN.out]
      rintro e w1 ⟨rfl, rfl⟩
      go_wp2_with fail
      rw [HI.out]
      refine (ref01_whole _ q i _ (by omega) (by omega)).mono ?_
      rw [← HW.out]
      rintro e w1 ⟨rfl, rfl⟩
      go_wp2_with fail
      go_ret2
      exact ⟨rfl, rfl⟩
    · have hS' : (9223372036854775808 : Int) ≤ b := by have := of_decide_eq_true hs.symm; omega
      clear hs
      go_enter Tryd.func8, Tryd.ntmps8
      go_wp2_with fail
      rw [HT.out]
      refine (ref01_near _ (10 * m) (by omega)).mono ?_
      rw [← HQ.out, ← HN.out]
      rintro e w1 ⟨rfl, rfl⟩
      go_wp2_with fail
      rw [HI.out]
      refine (ref01_whole _ q i _ (by omega) (by omega)).mono ?_
      rw [← HW.out]
      rintro e w1 ⟨rfl, rfl⟩
      go_wp2_with fail
      go_ret2
      exact ⟨rfl, rfl⟩
set_option maxRecDepth 100000 in
theorem ref01_Of_sub (w : World) (b : Nat) (S : Bool) (m : Nat) (hE : (b : Int) / 4503599627370496 % 2048 = 0) (hM : (b : Int) % 4503599627370496 = (m : Int)) (hb : b < 2 ^ 64) (hs : S = decide (2 ^ 63 ≤ b)) :
    Calls Tryd.prog 8 #[.int .u64 b] w fun e w' => e = .returned (.tuple #[.int .i64 (signI S (min (wholeV (rq (10 * m)) (((1 : Nat) : Int) - 1075 + rn (10 * m)) S) (2 ^ 40))), .int .i64 0]) ∧ w = w' := by
  have hM2 : (m : Int) < 4503599627370496 := by omega
  have HT : Hid ((10 : Int) * (m : Int) = ((10 * m : Nat) : Int)) := by unfold Hid; omega
  obtain ⟨q, hq⟩ : ∃ q, q = rq (10 * m) := ⟨_, rfl⟩
  obtain ⟨n, hn⟩ : ∃ n, n = rn (10 * m) := ⟨_, rfl⟩
  have hql : q ≤ 2 ^ 53 := by rw [hq]; exact rq_le _
  have hnl : n ≤ 4 := by rw [hn]; exact rn_le _ (by omega)
  have hnl2 : (n : Int) ≤ 4 := by omega
  have hm57 : m < 2 ^ 53 := by omega
  have hm53 : (m : Int) < 2 ^ 53 := by omega
  obtain ⟨i, hi⟩ : ∃ i : Int, i = (((1 : Nat) : Int)) - 1075 + n := ⟨_, rfl⟩
  have HI : Hid ((-1074 : Int) + (n : Int) = i) := by unfold Hid; omega
  rw [← hq, ← hn, ← hi]
  obtain ⟨W, hW⟩ : ∃ W, W = wholeV q i S := ⟨_, rfl⟩
  rw [← hW]
  have hWl : (W : Int) ≤ 9223372036854775808 := by have := wholeV_le q i S hql; omega
  have hi1 : i ≤ 60 := by omega
  have hi2 : -1074 ≤ i := by omega
  have HW := Lib.hid hW
  have HQ := Lib.hid hq
  have HN := Lib.hid hn
  clear hi hW hq hn
  by_cases hX : W ≤ 2 ^ 40
  all_goals
    first
      | (have hX1 : decide ((1099511627776 : Int) < W) = false := by rw [decide_eq_false_iff_not]; omega)
      | (have hX1 : decide ((1099511627776 : Int) < W) = true := by rw [decide_eq_true_iff]; omega)
    first
      | (have hX : min W (2 ^ 40) = W := by omega)
      | (have hX : min W (2 ^ 40) = 2 ^ 40 := by omega)
    rw [hX]
    clear hX
    cases S
    · have hS' : decide ((9223372036854775808 : Int) ≤ b) = false := by rw [decide_eq_false_iff_not]; have := of_decide_eq_false hs.symm; omega
      clear hs
      go_enter Tryd.func8, Tryd.ntmps8
      go_wp2_with fail
      rw [HT.out]
      refine (ref01_near _ (10 * m) (by omega)).mono ?_
      rw [← HQ.out, ← HN.out]
      rintro e w1 ⟨rfl, rfl⟩
      go_wp2_with fail
      rw [HI.out]
      refine (ref01_whole _ q i _ (by omega) (by omega)).mono ?_
      rw [← HW.out]
      rintro e w1 ⟨rfl, rfl⟩
      go_wp2_with fail
      go_ret2
      exact ⟨rfl, rfl⟩
    · have hS' : (9223372036854775808 : Int) ≤ b := by have := of_decide_eq_true hs.symm; omega
      clear hs
      go_enter Tryd.func8, Tryd.ntmps8
      go_wp2_with fail
      rw [HT.out]
      refine (ref01_near _ (10 * m) (by omega)).mono ?_
      rw [← HQ.out, ← HN.out]
      rintro e w1 ⟨rfl, rfl⟩
      go_wp2_with fail
      rw [HI.out]
      refine (ref01_whole _ q i _ (by omega) (by omega)).mono ?_
      rw [← HW.out]
      rintro e w1 ⟨rfl, rfl⟩
      go_wp2_with fail
      go_ret2
      exact ⟨rfl, rfl⟩
end Go.Proofs.YtlnlbnpabaddkaaDoor
