/-
  Plain laws of float64: words as numbers of units of 2^-1074; rounding to 53 bits.
-/
import Derived.Laws.FloatArith
namespace Go.Proofs.YtlnlbnpabaddkaaDoor
open Ieee
set_option exponentiation.threshold 3000

theorem pow_split {c : Nat} (a b : Nat) (h : c = a + b) : 2 ^ c = 2 ^ a * 2 ^ b := by rw [h, Nat.pow_add]
theorem log2_mul_pow (m a : Nat) (h : 0 < m) : (m * 2 ^ a).log2 = m.log2 + a := by
  have hm : m * 2 ^ a ≠ 0 := Nat.ne_of_gt (Nat.mul_pos h (Nat.two_pow_pos a))
  rw [Nat.log2_eq_iff hm]
  have h1 := Nat.log2_self_le (n := m) (by omega)
  have h2 := Nat.lt_log2_self (n := m)
  refine ⟨?_, ?_⟩
  · rw [Nat.pow_add]; exact Nat.mul_le_mul_right _ h1
  · rw [show m.log2 + a + 1 = (m.log2 + 1) + a by omega, Nat.pow_add]; exact Nat.mul_lt_mul_of_pos_right h2 (Nat.two_pow_pos a)

/-- W / 2^n, to the nearest, of two as near to the even one -/
def rto (W n : Nat) : Nat := W / 2 ^ n + if 2 ^ n < 2 * (W % 2 ^ n) ∨ (2 ^ n = 2 * (W % 2 ^ n) ∧ W / 2 ^ n % 2 = 1) then 1 else 0
def rn (W : Nat) : Nat := W.log2 - 52
def rq (W : Nat) : Nat := rto W (rn W)
/-- W rounded to 53 bits -/
def rnd (W : Nat) : Nat := rq W * 2 ^ rn W
def rung (W : Nat) : Nat := rn W * 2 ^ 52 + rq W
/-- the number of a rung, in units -/
def valr (r : Nat) : Nat := if r < 2 ^ 52 then r else (2 ^ 52 + r % 2 ^ 52) * 2 ^ (r / 2 ^ 52 - 1)

theorem scale {X W v n c d : Nat} (h : X * 2 ^ c = W * 2 ^ d) (hv : v + c = n + d) : X / 2 ^ v = W / 2 ^ n ∧ X % 2 ^ v * 2 ^ c = W % 2 ^ n * 2 ^ d ∧ 2 ^ v * 2 ^ c = 2 ^ n * 2 ^ d := by
  have e : 2 ^ v * 2 ^ c = 2 ^ n * 2 ^ d := by rw [← Nat.pow_add, ← Nat.pow_add, hv]
  refine ⟨?_, ?_, e⟩
  · rw [← Nat.mul_div_mul_right X (2 ^ v) (Nat.two_pow_pos c), e, h, Nat.mul_div_mul_right _ _ (Nat.two_pow_pos d)]
  · rw [← Nat.mul_mod_mul_right, e, h, Nat.mul_mod_mul_right]

theorem cut_even (s : Bool) {X W v n c d : Nat} (h : X * 2 ^ c = W * 2 ^ d) (hv : v + c = n + d) (hl : v ≤ X.log2 + 2) : Toward.even.cut s X v = rto W n := by
  obtain ⟨h1, h2, h3⟩ := scale h hv
  unfold Toward.cut rto
  rw [Nat.min_eq_left hl, Nat.shiftLeft_eq, Nat.one_mul]
  simp only [h1]
  congr 1
  have p1 : 2 ^ v < 2 * (X % 2 ^ v) ↔ 2 ^ n < 2 * (W % 2 ^ n) := by
    have q1 : 2 ^ v < 2 * (X % 2 ^ v) ↔ 2 ^ v * 2 ^ c < 2 * (X % 2 ^ v) * 2 ^ c := (Nat.mul_lt_mul_right (Nat.two_pow_pos c)).symm
    have q2 : 2 ^ n < 2 * (W % 2 ^ n) ↔ 2 ^ n * 2 ^ d < 2 * (W % 2 ^ n) * 2 ^ d := (Nat.mul_lt_mul_right (Nat.two_pow_pos d)).symm
    rw [q1, q2, h3, Nat.mul_assoc, h2, Nat.mul_assoc]
  have p2 : 2 ^ v = 2 * (X % 2 ^ v) ↔ 2 ^ n = 2 * (W % 2 ^ n) := by
    have q1 : 2 ^ v = 2 * (X % 2 ^ v) ↔ 2 ^ v * 2 ^ c = 2 * (X % 2 ^ v) * 2 ^ c := (Nat.mul_left_inj (Nat.ne_of_gt (Nat.two_pow_pos c))).symm
    have q2 : 2 ^ n = 2 * (W % 2 ^ n) ↔ 2 ^ n * 2 ^ d = 2 * (W % 2 ^ n) * 2 ^ d := (Nat.mul_left_inj (Nat.ne_of_gt (Nat.two_pow_pos d))).symm
    rw [q1, q2, h3, Nat.mul_assoc, h2, Nat.mul_assoc]
  generalize X % 2 ^ v = A at *
  generalize W % 2 ^ n = B at *
  generalize W / 2 ^ n = Q at *
  generalize 2 ^ v = G at *
  generalize 2 ^ n = H at *
  clear h h1 h2 h3
  have b1 : decide (G < 2 * A) = decide (H < 2 * B) := by simp only [p1]
  have b2 : (G == 2 * A) = (H == 2 * B) := by rw [Bool.eq_iff_iff]; simp only [beq_iff_eq]; exact p2
  rw [b1, b2]
  clear p1 p2 b1 b2
  by_cases a1 : H < 2 * B
  · simp [a1]
  · by_cases a2 : H = 2 * B
    · by_cases a3 : Q % 2 = 1
      · simp [a2, a3]
      · simp [a2, a3]
    · simp [a1, a2]

theorem nearest_rung (s : Bool) (mag W a b : Nat) (place : Int) (hm : 0 < mag) (hp : place + 1074 = (a : Int) - b) (hW : mag * 2 ^ a = W * 2 ^ b) :
    double.nearest s mag place = double.word s (min (rung W) double.infRung) := by
  have hW0 : 0 < W := by
    rcases Nat.eq_zero_or_pos W with h | h
    · rw [h, Nat.zero_mul] at hW
      have := Nat.mul_pos hm (Nat.two_pow_pos a)
      omega
    · exact h
  have hL : mag.log2 + a = W.log2 + b := by rw [← log2_mul_pow mag a hm, ← log2_mul_pow W b hW0, hW]
  have e1 : double.leastPlace = -1074 := by decide
  have e2 : double.binade = 2 ^ 52 := by decide
  have e3 : double.fractionBits = 52 := rfl
  unfold Format.nearest
  rw [if_neg (by omega)]
  simp only [e1, e2, e3]
  have hlast : max (place + (mag.log2 : Int) - ((52 : Nat) : Int)) (-1074) = (rn W : Int) - 1074 := by unfold rn; omega
  rw [hlast]
  have hk : ((rn W : Int) - 1074 - (-1074)).toNat = rn W := by omega
  rw [hk]
  congr 2
  unfold rung
  congr 1
  unfold rq
  have hn : rn W = W.log2 - 52 := rfl
  by_cases hu : (place - ((rn W : Int) - 1074)).toNat = 0
  · rw [hu, Nat.shiftLeft_zero]
    exact cut_even s hW (by omega) (by omega)
  · obtain ⟨u, hu'⟩ : ∃ u, (place - ((rn W : Int) - 1074)).toNat = u := ⟨_, rfl⟩
    have hv : ((rn W : Int) - 1074 - place).toNat = 0 := by omega
    rw [hu', hv, Nat.shiftLeft_eq]
    refine cut_even s (c := rn W) (d := 0) ?_ (by omega) (by omega)
    rw [Nat.pow_zero, Nat.mul_one]
    have ea : a = u + rn W + b := by omega
    rw [ea, Nat.pow_add, Nat.pow_add, ← Nat.mul_assoc, ← Nat.mul_assoc] at hW
    exact Nat.mul_right_cancel (Nat.two_pow_pos b) hW

theorem rn_zero {W : Nat} (h : W < 2 ^ 53) : rn W = 0 := by
  unfold rn
  rcases Nat.eq_zero_or_pos W with h0 | h0
  · subst h0; decide
  · have := (Nat.log2_lt (n := W) (k := 53) (by omega)).2 h
    omega
theorem rto_zero (W : Nat) : rto W 0 = W := by
  unfold rto
  simp [Nat.mod_one]
theorem rnd_small {W : Nat} (h : W < 2 ^ 53) : rnd W = W ∧ rung W = W := by
  unfold rnd rung rq
  rw [rn_zero h, rto_zero]; simp
/-- the quotient of a great number has 53 bits, or it is 2^53 -/
theorem rq_bounds {W : Nat} (h : 2 ^ 53 ≤ W) : 2 ^ 52 ≤ rq W ∧ rq W ≤ 2 ^ 53 ∧ 0 < rn W := by
  have h0 : W ≠ 0 := by omega
  have hl : 53 ≤ W.log2 := (Nat.le_log2 h0).2 h
  have h1 := Nat.log2_self_le h0
  have h2 := Nat.lt_log2_self (n := W)
  have hn : rn W = W.log2 - 52 := rfl
  have e1 : 2 ^ W.log2 = 2 ^ 52 * 2 ^ rn W := by rw [← Nat.pow_add]; congr 1; omega
  have e2 : 2 ^ (W.log2 + 1) = 2 ^ 53 * 2 ^ rn W := by rw [← Nat.pow_add]; congr 1; omega
  rw [e1] at h1; rw [e2] at h2
  have q1 : 2 ^ 52 ≤ W / 2 ^ rn W := (Nat.le_div_iff_mul_le (Nat.two_pow_pos _)).2 h1
  have q2 : W / 2 ^ rn W < 2 ^ 53 := (Nat.div_lt_iff_lt_mul (Nat.two_pow_pos _)).2 h2
  refine ⟨?_, ?_, by omega⟩
  · unfold rq rto; omega
  · unfold rq rto; split <;> omega
theorem valr_rung (W : Nat) : valr (rung W) = rnd W := by
  by_cases h : W < 2 ^ 53
  · obtain ⟨h1, h2⟩ := rnd_small h
    rw [h1, h2]
    unfold valr
    split
    · rfl
    · rename_i h3
      have : W / 2 ^ 52 = 1 := by omega
      rw [this]; simp; omega
  · obtain ⟨h1, h2, h3⟩ := rq_bounds (W := W) (by omega)
    unfold valr rung rnd
    rw [if_neg (by omega)]
    by_cases hq : rq W = 2 ^ 53
    · rw [hq]
      have e1 : (rn W * 2 ^ 52 + 2 ^ 53) / 2 ^ 52 = rn W + 2 := by omega
      have e2 : (rn W * 2 ^ 52 + 2 ^ 53) % 2 ^ 52 = 0 := by omega
      rw [e1, e2, Nat.add_zero, show rn W + 2 - 1 = 1 + rn W by omega, Nat.pow_add, ← Nat.mul_assoc]
    · have e1 : (rn W * 2 ^ 52 + rq W) / 2 ^ 52 = rn W + 1 := by omega
      have e2 : 2 ^ 52 + (rn W * 2 ^ 52 + rq W) % 2 ^ 52 = rq W := by omega
      rw [e1, e2]; rfl
end Go.Proofs.YtlnlbnpabaddkaaDoor
