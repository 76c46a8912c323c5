/-
  The reference's Of: its contract, and the plain law that it tells what 'tenV' tells.
-/
import Derived.Test.YtlnlbnpabaddkaaDoorTenF
namespace Go.Proofs.YtlnlbnpabaddkaaDoor
open Go.RowKit Ieee
set_option exponentiation.threshold 3000

theorem rnd_scale (W k : Nat) : rnd (W * 2 ^ k) = rnd W * 2 ^ k := by
  by_cases h : W < 2 ^ 53
  · rw [rnd_exact k h, (rnd_small h).1]
  · have h0 : 0 < W := by omega
    have hl : (W * 2 ^ k).log2 = W.log2 + k := log2_mul_pow W k h0
    have h53 : 53 ≤ W.log2 := (Nat.le_log2 (by omega)).2 (by omega)
    have hn : rn (W * 2 ^ k) = rn W + k := by unfold rn; omega
    unfold rnd rq
    rw [hn]
    have : rto (W * 2 ^ k) (rn W + k) = rto W (rn W) := by
      obtain ⟨h1, h2, h3⟩ := scale (X := W * 2 ^ k) (W := W) (v := rn W + k) (n := rn W) (c := 0) (d := k) (by simp) (by omega)
      unfold rto
      rw [h1]
      rw [Nat.pow_zero, Nat.mul_one] at h2 h3
      rw [h2, h3]
      have p1 : 2 ^ rn W * 2 ^ k < 2 * (W % 2 ^ rn W * 2 ^ k) ↔ 2 ^ rn W < 2 * (W % 2 ^ rn W) := by
        rw [← Nat.mul_assoc]; exact Nat.mul_lt_mul_right (Nat.two_pow_pos k)
      have p2 : 2 ^ rn W * 2 ^ k = 2 * (W % 2 ^ rn W * 2 ^ k) ↔ 2 ^ rn W = 2 * (W % 2 ^ rn W) := by
        rw [← Nat.mul_assoc]; exact Nat.mul_left_inj (Nat.ne_of_gt (Nat.two_pow_pos k))
      simp only [p1, p2]
    rw [this, Nat.pow_add, Nat.mul_assoc]

theorem scale_div {q a b : Nat} : q * 2 ^ a / 2 ^ (a + b) = q / 2 ^ b ∧ (q * 2 ^ a % 2 ^ (a + b) = 0 ↔ q % 2 ^ b = 0) := by
  rw [Nat.add_comm a b, Nat.pow_add]
  refine ⟨Nat.mul_div_mul_right _ _ (Nat.two_pow_pos a), ?_⟩
  rw [Nat.mul_mod_mul_right, Nat.mul_eq_zero]
  have := Nat.two_pow_pos a
  omega
theorem ten_abs (s : Bool) (V : Nat) : (tenV s V).natAbs = min (ceilV s V) (2 ^ 40) := by
  have e : (2 : Nat) ^ 1114 = 2 ^ 40 * 2 ^ 1074 := pow_split 40 1074 rfl
  have h : 2 ^ 1114 ≤ V ↔ 2 ^ 40 ≤ V / 2 ^ 1074 := by rw [e]; exact (Nat.le_div_iff_mul_le (Nat.two_pow_pos _)).symm
  unfold tenV
  have hb : V / 2 ^ 1074 ≤ ceilV s V ∧ ceilV s V ≤ V / 2 ^ 1074 + 1 := by unfold ceilV; split <;> omega
  by_cases h1 : 2 ^ 40 ≤ V / 2 ^ 1074
  · rw [if_pos (h.2 h1)]
    rw [Nat.min_eq_right (by omega)]
    cases s <;> rfl
  · rw [if_neg (fun x => h1 (h.1 x)), Nat.min_eq_left (by omega)]
    unfold sg
    cases s <;> simp
/-- 'whole', at most 2^40, is the ceiling, at most 2^40 -/
theorem whole_ten (q : Nat) (e : Int) (s : Bool) (he : -1074 ≤ e) (hq : q ≤ 2 ^ 53) (hb : 9 < e → q = 0 ∨ 2 ^ 52 ≤ q) : (min (wholeV q e s) (2 ^ 40) : Nat) = (tenV s (q * 2 ^ (e + 1074).toNat)).natAbs := by
  rw [ten_abs]
  unfold wholeV
  by_cases h0 : 0 ≤ e
  · rw [if_pos h0]
    have hc : ceilV s (q * 2 ^ (e + 1074).toNat) = q * 2 ^ e.toNat := by
      have : q * 2 ^ (e + 1074).toNat = q * 2 ^ e.toNat * 2 ^ 1074 := by
        rw [Nat.mul_assoc, pow_split e.toNat 1074 (by omega)]
      rw [this]
      unfold ceilV
      rw [Nat.mul_div_cancel _ (Nat.two_pow_pos _), Nat.mul_mod_left]
      simp
    rw [hc]
    by_cases h1 : q = 0
    · rw [if_pos h1, h1, Nat.zero_mul]
    · rw [if_neg h1]
      by_cases h2 : 9 < e
      · rw [if_pos h2]
        rcases hb h2 with h3 | h3
        · exact absurd h3 h1
        · have : 2 ^ 52 * 1 ≤ q * 2 ^ e.toNat := Nat.mul_le_mul h3 (Nat.two_pow_pos _)
          rw [Nat.min_eq_right (by omega), Nat.min_eq_right (by omega)]
      · rw [if_neg h2]
  · rw [if_neg h0]
    congr 1
    by_cases h1 : e < -60
    · rw [if_pos h1]
      have hV : q * 2 ^ (e + 1074).toNat < 2 ^ 1074 := by
        have a1 : q * 2 ^ (e + 1074).toNat ≤ 2 ^ 53 * 2 ^ 1013 := Nat.mul_le_mul hq (Nat.pow_le_pow_right (by omega) (by omega))
        rw [← Nat.pow_add] at a1
        exact Nat.lt_of_le_of_lt a1 (Nat.pow_lt_pow_right (by omega) (by omega))
      unfold ceilV
      rw [Nat.div_eq_of_lt hV, Nat.mod_eq_of_lt hV]
      have hp := Nat.two_pow_pos (e + 1074).toNat
      by_cases hz : q = 0
      · subst hz; simp
      · have : q * 2 ^ (e + 1074).toNat ≠ 0 := Nat.mul_ne_zero hz (by omega)
        have hq0 : 0 < q := by omega
        cases s <;> simp [this, hq0]
    · rw [if_neg h1]
      obtain ⟨d1, d2⟩ := scale_div (q := q) (a := (e + 1074).toNat) (b := (-e).toNat)
      rw [show (e + 1074).toNat + (-e).toNat = 1074 by omega] at d1 d2
      unfold ceilV
      rw [d1]
      congr 1
      by_cases hz : q % 2 ^ (-e).toNat = 0
      · rw [d2.2 hz, hz]; cases s <;> simp
      · have hz' : ¬ q * 2 ^ (e + 1074).toNat % 2 ^ 1074 = 0 := fun h => hz (d2.1 h)
        cases s <;> simp [hz, hz']

/-- the number of a word's units -/
theorem Of_plain (m e : Nat) (s : Bool) (hm : m < 2 ^ 53) (h0 : 1 ≤ e) (hl : 1 < e → 2 ^ 52 ≤ m) :
    (min (wholeV (rq (10 * m)) ((e : Int) - 1075 + rn (10 * m)) s) (2 ^ 40) : Nat) = (tenV s (rnd (10 * (m * 2 ^ (e - 1))))).natAbs := by
  have hq : rq (10 * m) ≤ 2 ^ 53 := by
    by_cases h : 10 * m < 2 ^ 53
    · have := (rnd_small h).2; unfold rung at this; rw [rn_zero h] at this; omega
    · exact (rq_bounds (W := 10 * m) (by omega)).2.1
  have hn : rn (10 * m) ≤ 4 := by
    have hr := rn_wd (10 * m)
    have : wd (10 * m) ≤ 57 := by
      unfold wd
      split
      · omega
      · have := (Nat.log2_lt (n := 10 * m) (k := 57) (by omega)).2 (by omega); omega
    split at hr <;> omega
  rw [whole_ten _ _ _ (by omega) hq ?_]
  · have e1 : rq (10 * m) * 2 ^ ((e : Int) - 1075 + rn (10 * m) + 1074).toNat = rnd (10 * (m * 2 ^ (e - 1))) := by
      rw [← Nat.mul_assoc, rnd_scale]
      unfold rnd
      rw [Nat.mul_assoc, ← Nat.pow_add]
      congr 2
      omega
    rw [e1]
  · intro h9
    right
    exact (rq_bounds (W := 10 * m) (by have := hl (by omega); omega)).1
end Go.Proofs.YtlnlbnpabaddkaaDoor
