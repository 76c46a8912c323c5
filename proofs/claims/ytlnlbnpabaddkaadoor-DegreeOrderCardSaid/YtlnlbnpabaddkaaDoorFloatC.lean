/-
  Plain laws of float64: rounding is monotone; the product by ten; whole numbers.
-/
import Derived.Test.YtlnlbnpabaddkaaDoorFloatB
namespace Go.Proofs.YtlnlbnpabaddkaaDoor
open Ieee
set_option exponentiation.threshold 3000

theorem rnd_exact {c : Nat} (k : Nat) (h : c < 2 ^ 53) : rnd (c * 2 ^ k) = c * 2 ^ k := by
  rcases Nat.eq_zero_or_pos c with h0 | h0
  · subst h0; rw [Nat.zero_mul]; exact (rnd_small (by decide)).1
  have hl : (c * 2 ^ k).log2 = c.log2 + k := log2_mul_pow c k h0
  have hc : c.log2 < 53 := (Nat.log2_lt (by omega)).2 h
  have hn : rn (c * 2 ^ k) ≤ k := by unfold rn; omega
  obtain ⟨j, hj⟩ : ∃ j, k = rn (c * 2 ^ k) + j := ⟨k - rn (c * 2 ^ k), by omega⟩
  generalize hnn : rn (c * 2 ^ k) = n at *
  have e : c * 2 ^ k = (c * 2 ^ j) * 2 ^ n := by rw [hj, Nat.pow_add, Nat.mul_assoc, Nat.mul_comm (2 ^ n)]
  unfold rnd rq
  rw [hnn, e]
  unfold rto
  rw [Nat.mul_div_cancel _ (Nat.two_pow_pos n), Nat.mul_mod_left]
  have := Nat.two_pow_pos n
  rw [if_neg (by omega), Nat.add_zero]
theorem rnd_low {W : Nat} (h : W ≠ 0) : 2 ^ W.log2 ≤ rnd W := by
  by_cases h1 : W < 2 ^ 53
  · rw [(rnd_small h1).1]; exact Nat.log2_self_le h
  · obtain ⟨a, _, b⟩ := rq_bounds (W := W) (by omega)
    have e : 2 ^ W.log2 = 2 ^ 52 * 2 ^ rn W := by rw [← Nat.pow_add]; congr 1; unfold rn at *; omega
    rw [e]; exact Nat.mul_le_mul_right _ a
theorem rnd_high {W : Nat} : rnd W ≤ 2 ^ (W.log2 + 1) := by
  by_cases h1 : W < 2 ^ 53
  · rw [(rnd_small h1).1]; exact Nat.le_of_lt Nat.lt_log2_self
  · obtain ⟨_, a, b⟩ := rq_bounds (W := W) (by omega)
    have e : 2 ^ (W.log2 + 1) = 2 ^ 53 * 2 ^ rn W := by rw [← Nat.pow_add]; congr 1; unfold rn at *; omega
    rw [e]; exact Nat.mul_le_mul_right _ a
theorem rto_mono {W W' n : Nat} (h : W ≤ W') : rto W n ≤ rto W' n := by
  have hq : W / 2 ^ n ≤ W' / 2 ^ n := Nat.div_le_div_right h
  rcases Nat.lt_or_ge (W / 2 ^ n) (W' / 2 ^ n) with h1 | h1
  · unfold rto
    split <;> split <;> omega
  · have e : W / 2 ^ n = W' / 2 ^ n := by omega
    have d1 := Nat.div_add_mod W (2 ^ n)
    have d2 := Nat.div_add_mod W' (2 ^ n)
    rw [e] at d1
    unfold rto
    rw [e]
    generalize 2 ^ n * (W' / 2 ^ n) = q at *
    split <;> split <;> omega
theorem log2_mono {W W' : Nat} (h : W ≤ W') : W.log2 ≤ W'.log2 := by
  rcases Nat.eq_zero_or_pos W with h0 | h0
  · subst h0; simp
  · exact (Nat.le_log2 (by omega)).2 (Nat.le_trans (Nat.log2_self_le (by omega)) h)
theorem rnd_mono {W W' : Nat} (h : W ≤ W') : rnd W ≤ rnd W' := by
  rcases Nat.lt_or_ge W.log2 W'.log2 with h1 | h1
  · have h0 : W' ≠ 0 := by rintro rfl; simp at h1
    exact Nat.le_trans rnd_high (Nat.le_trans (Nat.pow_le_pow_right (by omega) h1) (rnd_low h0))
  · have e : W.log2 = W'.log2 := Nat.le_antisymm (log2_mono h) h1
    have hn : rn W = rn W' := by unfold rn; rw [e]
    unfold rnd rq
    rw [hn]
    exact Nat.mul_le_mul_right _ (rto_mono h)
theorem rnd_ge {W k : Nat} (h : 2 ^ k ≤ W) : 2 ^ k ≤ rnd W := by
  have := rnd_mono h
  rwa [show rnd (2 ^ k) = 2 ^ k by have := rnd_exact (c := 1) k (by decide); rwa [Nat.one_mul] at this] at this
theorem rung_lt {W : Nat} (h : W < 2 ^ 1200) : rung W < 2047 * 2 ^ 52 := by
  by_cases h1 : W < 2 ^ 53
  · rw [(rnd_small h1).2]; omega
  · obtain ⟨_, a, _⟩ := rq_bounds (W := W) (by omega)
    have : W.log2 < 1200 := (Nat.log2_lt (by omega)).2 h
    unfold rung
    have : rn W ≤ 1147 := by unfold rn; omega
    omega

/-- what 'nearest' gives, read again -/
theorem near_fin (s : Bool) (mag W a b : Nat) (place : Int) (hp : place + 1074 = (a : Int) - b) (hW : mag * 2 ^ a = W * 2 ^ b) :
    Fin (double.read (double.nearest s mag place)) s (rnd W) ∨ (double.read (double.nearest s mag place) = .infinity s ∧ 2 ^ 1200 ≤ W) := by
  rcases Nat.eq_zero_or_pos mag with h0 | h0
  · subst h0
    have hW0 : W = 0 := by
      rw [Nat.zero_mul] at hW
      rcases Nat.mul_eq_zero.1 hW.symm with h | h
      · exact h
      · have := Nat.two_pow_pos b; omega
    subst hW0
    left
    have : double.nearest s 0 place = double.word s 0 := by unfold Format.nearest; rw [if_pos rfl]
    rw [this, (rnd_small (by decide)).1]
    exact read_word (by omega)
  · rw [nearest_rung s mag W a b place h0 hp hW]
    by_cases hr : rung W < 2047 * 2 ^ 52
    · left
      rw [Nat.min_eq_left (by rw [inf_eq]; omega), ← valr_rung]
      exact read_word hr
    · right
      rw [Nat.min_eq_right (by rw [inf_eq]; omega)]
      refine ⟨read_inf, ?_⟩
      rcases Nat.lt_or_ge W (2 ^ 1200) with h | h
      · exact absurd (rung_lt h) hr
      · exact h
theorem enc_int (s : Bool) {c : Nat} (h : c < 2 ^ 53) : Fin (double.read (double.write (.number s c 0))) s (c * 2 ^ 1074) := by
  rcases near_fin s c (c * 2 ^ 1074) 1074 0 0 (by omega) (by rw [Nat.pow_zero, Nat.mul_one]) with h1 | ⟨_, h2⟩
  · rwa [rnd_exact 1074 h] at h1
  · exfalso
    have : ∀ P, 0 < P → c * P < 2 ^ 53 * P := fun P hP => Nat.mul_lt_mul_of_pos_right h hP
    have := this _ (Nat.two_pow_pos 1074)
    rw [← Nat.pow_add] at this
    have h3 : (2 : Nat) ^ (53 + 1074) ≤ 2 ^ 1200 := Nat.pow_le_pow_right (by omega) (by omega)
    omega

def TEN : Nat := 4621819117588971520
def TOP : Nat := 4787326403894837248
def NOP : Nat := 14010698440749613056
theorem ten_fin : double.read TEN = .number false (5 * 2 ^ 50) (-49) := by decide
theorem top_fin : Fin (double.read TOP) false (2 ^ 1114) := ⟨2 ^ 52, -12, by decide, by omega, by rw [← Nat.pow_add]; rfl⟩
theorem nop_fin : Fin (double.read NOP) true (2 ^ 1114) := ⟨2 ^ 52, -12, by decide, by omega, by rw [← Nat.pow_add]; rfl⟩
theorem mul_ten {x : Nat} {s : Bool} {V : Nat} (h : Fin (double.read x) s V) :
    ∃ y, double.mul x TEN = some y ∧ (Fin (double.read y) s (rnd (10 * V)) ∨ (double.read y = .infinity s ∧ 2 ^ 1200 ≤ 10 * V)) := by
  obtain ⟨m, i, hx, hi, hV⟩ := h
  refine ⟨_, by unfold Format.mul; rw [hx, ten_fin]; rfl, ?_⟩
  have : double.write (.number (s ^^ false) (m * (5 * 2 ^ 50)) (i + -49)) = double.nearest s (m * (5 * 2 ^ 50)) (i + -49) := by simp [Format.write]
  rw [this]
  refine near_fin s _ (10 * V) (i + 1074).toNat 49 _ (by omega) ?_
  rw [← hV, show (5 : Nat) * 2 ^ 50 = 10 * 2 ^ 49 by decide]
  generalize 2 ^ (i + 1074).toNat = A
  generalize (2 : Nat) ^ 49 = B
  rw [Nat.mul_right_comm, Nat.mul_assoc m, ← Nat.mul_assoc m, Nat.mul_comm (m * A), ← Nat.mul_assoc]
  ac_rfl
end Go.Proofs.YtlnlbnpabaddkaaDoor
