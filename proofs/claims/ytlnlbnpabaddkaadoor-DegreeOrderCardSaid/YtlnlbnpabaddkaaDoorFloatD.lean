/-
  Plain laws of float64: quotient by ten, sum, errors; there and back.
-/
import Derived.Test.YtlnlbnpabaddkaaDoorTenG
namespace Go.Proofs.YtlnlbnpabaddkaaDoor
open Ieee
set_option exponentiation.threshold 3000

theorem rto_err (W g : Nat) (hg : 0 < g) : (W / (2 * g) + if 2 * g < 2 * (W % (2 * g)) ∨ (2 * g = 2 * (W % (2 * g)) ∧ W / (2 * g) % 2 = 1) then 1 else 0) * (2 * g) ≤ W + g ∧ W ≤ (W / (2 * g) + if 2 * g < 2 * (W % (2 * g)) ∨ (2 * g = 2 * (W % (2 * g)) ∧ W / (2 * g) % 2 = 1) then 1 else 0) * (2 * g) + g := by
  have d := Nat.div_add_mod W (2 * g)
  have hm := Nat.mod_lt W (show 0 < 2 * g by omega)
  rw [Nat.mul_comm] at d
  generalize W / (2 * g) = Q at *
  generalize W % (2 * g) = R at *
  generalize hP : 2 * g = G at *
  split
  · rw [Nat.add_mul, Nat.one_mul]
    generalize Q * G = x at *
    omega
  · rw [Nat.add_zero]
    generalize Q * G = x at *
    omega
/-- the error of rounding -/
theorem rnd_err (W : Nat) : ∃ e, e * 2 ^ 53 ≤ W ∧ rnd W ≤ W + e ∧ W ≤ rnd W + e := by
  by_cases h : W < 2 ^ 53
  · exact ⟨0, by omega, by rw [(rnd_small h).1]; omega, by rw [(rnd_small h).1]; omega⟩
  · obtain ⟨_, _, h3⟩ := rq_bounds (W := W) (by omega)
    have h0 : W ≠ 0 := by omega
    obtain ⟨n, hn⟩ : ∃ n, rn W = n + 1 := ⟨rn W - 1, by omega⟩
    have hl : W.log2 = n + 53 := by unfold rn at hn; omega
    refine ⟨2 ^ n, ?_, ?_⟩
    · rw [← Nat.pow_add, ← hl]; exact Nat.log2_self_le h0
    · unfold rnd rq rto
      rw [hn, show 2 ^ (n + 1) = 2 * 2 ^ n by rw [Nat.pow_succ]; omega]
      exact rto_err W (2 ^ n) (Nat.two_pow_pos n)
theorem rnd_rnd (W : Nat) : rnd (rnd W) = rnd W := by
  by_cases h : W < 2 ^ 53
  · rw [(rnd_small h).1]; exact (rnd_small h).1
  · obtain ⟨_, h2, _⟩ := rq_bounds (W := W) (by omega)
    rcases Nat.lt_or_eq_of_le h2 with h3 | h3
    · exact rnd_exact (rn W) h3
    · have : rnd W = 1 * 2 ^ (53 + rn W) := by unfold rnd; rw [h3, Nat.pow_add]; omega
      rw [this]; exact rnd_exact _ (by decide)

theorem read_small {b : Nat} {s : Bool} {m : Nat} {i : Int} (h : double.read b = .number s m i) : m < 2 ^ 53 := by
  unfold Format.read at h
  simp only [binade_eq] at h
  split at h
  · cases h; omega
  · split at h
    · cases h; omega
    · split at h <;> cases h
/-- the least whole number that is not below: the only one -/
theorem ten_unique {s : Bool} {V : Nat} {n : Int} (h1 : (n - 1) * (2 : Int) ^ 1074 < sg s V) (h2 : sg s V ≤ n * (2 : Int) ^ 1074) (h3 : -1099511627776 < n) (h4 : n < 1099511627776) : tenV s V = n := by
  have e : (2 : Nat) ^ 1114 = 2 ^ 40 * 2 ^ 1074 := by rw [← Nat.pow_add]
  have hU : (2 : Int) ^ 1074 = ((2 ^ 1074 : Nat) : Int) := by rw [Int.natCast_pow]; rfl
  rw [hU] at h1 h2
  have hp := Nat.two_pow_pos 1074
  have d := Nat.div_add_mod V (2 ^ 1074)
  have hm := Nat.mod_lt V hp
  unfold tenV ceilV
  rw [e]
  generalize (2 : Nat) ^ 1074 = U at *
  generalize hQ : V / U = Q at *
  generalize hR : V % U = R at *
  have dI : (U : Int) * Q + R = V := by exact_mod_cast d
  have hRU : (R : Int) < U := by omega
  have hUp : (0 : Int) < U := by omega
  cases s
  · have e1 : sg false V = V := rfl
    rw [e1] at h1 h2
    have hQn : (Q : Int) ≤ n := by
      rcases Int.lt_or_le n Q with h | h
      · exfalso
        have : (n + 1) * U ≤ Q * U := Int.mul_le_mul_of_nonneg_right (by omega) (by omega)
        rw [Int.add_mul, Int.one_mul] at this
        rw [Int.mul_comm (U : Int)] at dI
        omega
      · exact h
    have hnQ : n ≤ (Q : Int) + if R = 0 then 0 else 1 := by
      rcases Int.lt_or_le ((Q : Int) + if R = 0 then 0 else 1) n with h | h
      · exfalso
        have : ((Q : Int) + if R = 0 then 0 else 1) * U ≤ (n - 1) * U := Int.mul_le_mul_of_nonneg_right (by omega) (by omega)
        rw [Int.add_mul] at this
        rw [Int.mul_comm (U : Int)] at dI
        split at this <;> omega
      · exact h
    have hsmall : ¬ 2 ^ 40 * U ≤ V := by
      intro hc
      have : (1099511627776 : Int) * U ≤ V := by omega
      have h5 : (n + 1) * U ≤ 1099511627776 * U := Int.mul_le_mul_of_nonneg_right (by omega) (by omega)
      rw [Int.add_mul, Int.one_mul] at h5
      omega
    rw [if_neg hsmall]
    by_cases hz : R = 0
    · subst hz
      simp [sg] at hnQ ⊢
      omega
    · rw [if_neg hz] at hnQ
      have hc : n ≠ Q := by
        rintro rfl
        rw [Int.mul_comm (U : Int)] at dI
        omega
      simp [sg, hz]
      omega
  · have e1 : sg true V = -(V : Int) := rfl
    rw [e1] at h1 h2
    have hQn : n ≤ -(Q : Int) := by
      rcases Int.lt_or_le (-(Q : Int)) n with h | h
      · exfalso
        have : (-(Q : Int)) * U ≤ (n - 1) * U := Int.mul_le_mul_of_nonneg_right (by omega) (by omega)
        rw [Int.neg_mul] at this
        rw [Int.mul_comm (U : Int)] at dI
        omega
      · exact h
    have hnQ : -(Q : Int) ≤ n := by
      rcases Int.lt_or_le n (-(Q : Int)) with h | h
      · exfalso
        have : (n + 1) * U ≤ (-(Q : Int)) * U := Int.mul_le_mul_of_nonneg_right (by omega) (by omega)
        rw [Int.add_mul, Int.one_mul, Int.neg_mul] at this
        rw [Int.mul_comm (U : Int)] at dI
        omega
      · exact h
    have hsmall : ¬ 2 ^ 40 * U ≤ V := by
      intro hc
      have hc' : (1099511627776 : Int) * U ≤ V := by omega
      have hQ2 : Q < 1099511627776 := by omega
      have h5 : ((Q : Int) + 1) * U ≤ 1099511627776 * U := Int.mul_le_mul_of_nonneg_right (by omega) (by omega)
      rw [Int.add_mul, Int.one_mul] at h5
      rw [Int.mul_comm (U : Int)] at dI
      omega
    rw [if_neg hsmall]
    simp [sg]
    omega
end Go.Proofs.YtlnlbnpabaddkaaDoor
