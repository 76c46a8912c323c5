/-
  Plain laws of float64: quotient by ten; a tenth's float; sums.
-/
import Derived.Test.YtlnlbnpabaddkaaDoorFloatD
namespace Go.Proofs.YtlnlbnpabaddkaaDoor
open Ieee
set_option exponentiation.threshold 3000

/-- the quotient to so many digits: what the last one tells -/
theorem quot_mag (D n : Nat) (hn : 0 < n) : ∃ r : Nat, r = 2 * (D / n) + (D % n != 0).toNat ∧ (r * n = 2 * D ∨ (r % 2 = 1 ∧ r * n < 2 * D + n ∧ 2 * D < r * n + n)) := by
  refine ⟨_, rfl, ?_⟩
  have d := Nat.div_add_mod D n
  have hm := Nat.mod_lt D hn
  generalize D / n = Q at *
  generalize D % n = R at *
  by_cases h : R = 0
  · left
    subst h
    have : ((0 : Nat) != 0).toNat = 0 := rfl
    rw [this, Nat.add_zero, Nat.mul_assoc, Nat.mul_comm Q]; omega
  · right
    have : (R != 0).toNat = 1 := by have : (R != 0) = true := by rw [bne_iff_ne]; exact h
                                    rw [this]; rfl
    rw [this, Nat.add_mul, Nat.one_mul, Nat.mul_assoc, Nat.mul_comm Q]
    generalize n * Q = x at *
    omega
/-- a tenth of V, rounded: how near it is -/
structure Tenth (V X : Nat) : Prop where
  ex : ∃ q N, X = q * 2 ^ N ∧ 2 ^ 52 ≤ q ∧ q ≤ 2 ^ 53 ∧ 10 * X ≤ V + 5 * 2 ^ N ∧ V ≤ 10 * X + 5 * 2 ^ N

theorem div_ten {x : Nat} {s : Bool} {m : Nat} {i : Int} (h : double.read x = .number s m i) (h0 : 0 < m) (hi : -200 ≤ i) (hi2 : i ≤ 0) :
    ∃ y X, double.div x TEN = some y ∧ Fin (double.read y) s X ∧ Tenth (m * 2 ^ (i + 1074).toNat) X := by
  have hm := read_small h
  have hlm : m.log2 < 53 := (Nat.log2_lt (by omega)).2 hm
  have hl5 : (5 * 2 ^ 50 : Nat).log2 = 52 := by decide
  obtain ⟨more, hmore⟩ : ∃ more, more = 106 - m.log2 := ⟨_, rfl⟩
  obtain ⟨D, hD⟩ : ∃ D, D = m * 2 ^ more := ⟨_, rfl⟩
  have hDl : D.log2 = 106 := by rw [hD, log2_mul_pow m more h0]; omega
  have hD0 : D ≠ 0 := by intro h; rw [h] at hDl; exact absurd hDl (by decide)
  have hD1 := Nat.log2_self_le hD0
  have hD2 := Nat.lt_log2_self (n := D)
  rw [hDl] at hD1 hD2
  obtain ⟨r, hr, hr2⟩ := quot_mag D (5 * 2 ^ 50) (by decide)
  have hr3 : 2 ^ 54 ≤ r := by rcases hr2 with h | ⟨_, h, _⟩ <;> omega
  have hr4 : r < 2 ^ 56 := by rcases hr2 with h | ⟨_, _, h⟩ <;> omega
  obtain ⟨a, ha⟩ : ∃ a : Nat, (a : Int) = i + 48 - more + 1074 := ⟨(i + 48 - more + 1074).toNat, by omega⟩
  have hdiv : double.div x TEN = some (double.write (.number (s ^^ false) r (i - (-49) - more - 1))) := by
    unfold Format.div
    rw [h, ten_fin]
    simp only [Datum.quotient, hl5]
    rw [if_neg (by decide)]
    have e : double.fractionBits + 2 + 52 - m.log2 = more := by rw [hmore]; rfl
    rw [e, Nat.shiftLeft_eq, ← hD, ← hr]
    rfl
  obtain ⟨W, hW⟩ : ∃ W, W = r * 2 ^ a := ⟨_, rfl⟩
  have hw : double.write (.number (s ^^ false) r (i - (-49) - more - 1)) = double.nearest s r (i - (-49) - more - 1) := by simp [Format.write]
  have hWlt : W < 2 ^ 1500 := by
    rw [hW]
    have h1 : r * 2 ^ a < 2 ^ 56 * 2 ^ a := Nat.mul_lt_mul_of_pos_right hr4 (Nat.two_pow_pos a)
    rw [← Nat.pow_add] at h1
    exact Nat.lt_of_lt_of_le h1 (Nat.pow_le_pow_right (by omega) (by omega))
  have hfin : Fin (double.read (double.nearest s r (i - (-49) - more - 1))) s (rnd W) := by
    rcases near_fin s r W a 0 (i - (-49) - more - 1) (by omega) (by rw [Nat.pow_zero, Nat.mul_one, hW]) with h1 | ⟨_, h2⟩
    · exact h1
    · exfalso
      have h1 : r * 2 ^ a < 2 ^ 56 * 2 ^ a := Nat.mul_lt_mul_of_pos_right hr4 (Nat.two_pow_pos a)
      rw [← Nat.pow_add] at h1
      have h3 : 2 ^ (56 + a) ≤ 2 ^ 1200 := Nat.pow_le_pow_right (by omega) (by omega)
      rw [hW] at h2
      omega
  refine ⟨_, rnd W, hdiv, by rw [hw]; exact hfin, ?_⟩
  have hlr : r.log2 = 54 ∨ r.log2 = 55 := by
    have h1 := (Nat.le_log2 (n := r) (k := 54) (by omega)).2 hr3
    have h2 := (Nat.log2_lt (n := r) (k := 56) (by omega)).2 hr4
    omega
  obtain ⟨k, hk⟩ : ∃ k, rn W = a + (k + 1) ∧ (k = 1 ∨ k = 2) := by
    have : W.log2 = r.log2 + a := by rw [hW]; exact log2_mul_pow r a (by omega)
    refine ⟨r.log2 - 53, ?_, by omega⟩
    unfold rn; omega
  have hWbig : 2 ^ 53 ≤ W := by
    rw [hW]
    have : 2 ^ 54 * 1 ≤ r * 2 ^ a := Nat.mul_le_mul hr3 (Nat.two_pow_pos a)
    omega
  obtain ⟨q1, q2, _⟩ := rq_bounds hWbig
  refine ⟨rq W, rn W, rfl, q1, q2, ?_, ?_⟩
  all_goals
    obtain ⟨hk1, hk2⟩ := hk
    have hs := scale_div (q := r) (a := a) (b := k + 1)
    have e1 := rto_err r (2 ^ k) (Nat.two_pow_pos k)
    have hq : rnd W = (r / (2 * 2 ^ k) + if 2 * 2 ^ k < 2 * (r % (2 * 2 ^ k)) ∨ (2 * 2 ^ k = 2 * (r % (2 * 2 ^ k)) ∧ r / (2 * 2 ^ k) % 2 = 1) then 1 else 0) * (2 * 2 ^ k) * 2 ^ a := by
      have e0 : rnd W = rnd r * 2 ^ a := by rw [hW, rnd_scale]
      rw [e0]
      congr 1
      have hrn : rn r = k + 1 := by
        have : W.log2 = r.log2 + a := by rw [hW]; exact log2_mul_pow r a (by omega)
        unfold rn at hk1 ⊢; omega
      unfold rnd rq rto
      rw [hrn, show 2 ^ (k + 1) = 2 * 2 ^ k by rw [Nat.pow_succ]; omega]
    have hN : 2 ^ rn W = 2 ^ a * (2 * 2 ^ k) := by rw [hk1, Nat.pow_add, Nat.pow_succ]; congr 1; omega
    have hV : m * 2 ^ (i + 1074).toNat * 2 ^ 49 = 2 * D * 2 ^ a := by
      have e9 : (2 : Nat) ^ ((i + 1074).toNat + 49) = 2 ^ more * (2 * 2 ^ a) := by rw [← Nat.pow_succ', ← Nat.pow_add]; congr 1; omega
      rw [hD, Nat.mul_assoc, ← Nat.pow_add, e9]
      ac_rfl
    rw [hq, hN]
    generalize hT : (r / (2 * 2 ^ k) + if 2 * 2 ^ k < 2 * (r % (2 * 2 ^ k)) ∨ (2 * 2 ^ k = 2 * (r % (2 * 2 ^ k)) ∧ r / (2 * 2 ^ k) % 2 = 1) then 1 else 0) = T at *
    have key : 10 * (T * (2 * 2 ^ k)) * 2 ^ 49 ≤ 2 * D + 5 * (2 * 2 ^ k) * 2 ^ 49 ∧ 2 * D ≤ 10 * (T * (2 * 2 ^ k)) * 2 ^ 49 + 5 * (2 * 2 ^ k) * 2 ^ 49 := by
      rcases hk2 with rfl | rfl
      · simp only [Nat.pow_one, Nat.reduceMul] at e1 ⊢
        rcases hr2 with h | ⟨h, h', h''⟩ <;> omega
      · simp only [Nat.reducePow, Nat.reduceMul] at e1 ⊢
        rcases hr2 with h | ⟨h, h', h''⟩ <;> omega
    have hA := Nat.two_pow_pos a
    refine Nat.le_of_mul_le_mul_right (c := 2 ^ 49) ?_ (Nat.two_pow_pos 49)
    rw [Nat.add_mul, hV]
    generalize 2 ^ a = A at *
    generalize hG : 2 * 2 ^ k = G at *
    generalize (2 : Nat) ^ 49 = B at *
    obtain ⟨k1, k2⟩ := key
    first
      | (have := Nat.mul_le_mul_right A k1
         rw [Nat.add_mul] at this
         have x1 : 10 * (T * G) * B * A = 10 * (T * G * A) * B := by ac_rfl
         have x2 : 5 * G * B * A = 5 * (A * G) * B := by ac_rfl
         omega)
      | (have := Nat.mul_le_mul_right A k2
         rw [Nat.add_mul] at this
         have x1 : 10 * (T * G) * B * A = 10 * (T * G * A) * B := by ac_rfl
         have x2 : 5 * G * B * A = 5 * (A * G) * B := by ac_rfl
         omega)

/-- ten times a tenth is the number again -/
theorem tenth_back {c X : Nat} (h : Tenth (c * 2 ^ 1074) X) (h1 : c < 2 ^ 40) : rnd (10 * X) = c * 2 ^ 1074 ∧ 10 * X ≤ c * 2 ^ 1074 + 5 * 2 ^ 1064 ∧ c * 2 ^ 1074 ≤ 10 * X + 5 * 2 ^ 1064 := by
  obtain ⟨q, N, hX, q1, q2, b1, b2⟩ := h
  have hN : N ≤ 1064 := by
    rcases Nat.lt_or_ge 1064 N with hN | hN
    · exfalso
      have g1 : 2 ^ 1065 ≤ 2 ^ N := Nat.pow_le_pow_right (by omega) hN
      have g2 : 2 ^ 52 * 2 ^ N ≤ q * 2 ^ N := Nat.mul_le_mul_right _ q1
      have g3 : c * 2 ^ 1074 ≤ 2 ^ 40 * 2 ^ 1074 := Nat.mul_le_mul_right _ (by omega)
      have g4 : (2 : Nat) ^ 1074 = 2 ^ 9 * 2 ^ 1065 := by rw [← Nat.pow_add]
      rw [hX] at b1
      generalize 2 ^ N = Y at *
      generalize (2 : Nat) ^ 1065 = Z at *
      have : 0 < Y := by omega
      generalize q * Y = x at *
      omega
    · exact hN
  have hK : c * 2 ^ 1074 = 16 * (c * 2 ^ (1070 - N)) * 2 ^ N := by
    rw [show 1074 = 4 + (1070 - N) + N by omega, Nat.pow_add, Nat.pow_add]
    have : (2 : Nat) ^ 4 = 16 := rfl
    rw [this]
    ac_rfl
  have hNN : 2 ^ N ≤ 2 ^ 1064 := Nat.pow_le_pow_right (by omega) hN
  refine ⟨?_, by omega, by omega⟩
  rw [hK] at b1 b2 ⊢
  rw [hX] at b1 b2 ⊢
  generalize c * 2 ^ (1070 - N) = K at *
  have hA := Nat.two_pow_pos N
  rw [← Nat.mul_assoc] at b1 b2 ⊢
  rw [← Nat.add_mul] at b1 b2
  have c1 := Nat.le_of_mul_le_mul_right b1 hA
  have c2 := Nat.le_of_mul_le_mul_right b2 hA
  rw [rnd_scale]
  congr 1
  have hlog : (10 * q).log2 = 55 ∨ (10 * q).log2 = 56 := by
    have h1 := (Nat.le_log2 (n := 10 * q) (k := 55) (by omega)).2 (by omega)
    have h2 := (Nat.log2_lt (n := 10 * q) (k := 57) (by omega)).2 (by omega)
    omega
  unfold rnd rq rto
  rcases hlog with h | h
  · have e : rn (10 * q) = 3 := by unfold rn; omega
    rw [e]
    simp only [Nat.reducePow]
    split <;> omega
  · have e : rn (10 * q) = 4 := by unfold rn; omega
    rw [e]
    simp only [Nat.reducePow]
    split <;> omega
end Go.Proofs.YtlnlbnpabaddkaaDoor
