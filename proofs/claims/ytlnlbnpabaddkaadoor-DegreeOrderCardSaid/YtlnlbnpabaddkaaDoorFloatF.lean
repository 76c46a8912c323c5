/-
  Plain laws of float64: a sum; a tenth's float and a little more, or less.
-/
import Derived.Test.YtlnlbnpabaddkaaDoorFloatE
namespace Go.Proofs.YtlnlbnpabaddkaaDoor
open Ieee
set_option exponentiation.threshold 3000

theorem sum_fin {x y : Nat} {s t : Bool} {V U : Nat} (hx : Fin (double.read x) s V) (hy : Fin (double.read y) t U) (hb : (sg s V + sg t U).natAbs < 2 ^ 1200) :
    ∃ z, double.add x y = some z ∧ Fin (double.read z) (if sg s V + sg t U = 0 then s && t else decide (sg s V + sg t U < 0)) (rnd (sg s V + sg t U).natAbs) := by
  obtain ⟨m, i, hx, hi, rfl⟩ := hx
  obtain ⟨n, j, hy, hj, rfl⟩ := hy
  obtain ⟨base, hbase⟩ : ∃ base, base = min i j := ⟨_, rfl⟩
  obtain ⟨total, htot⟩ : ∃ total, total = signed s m (i - base).toNat + signed t n (j - base).toNat := ⟨_, rfl⟩
  have hT : sg s (m * 2 ^ (i + 1074).toNat) + sg t (n * 2 ^ (j + 1074).toNat) = total * (2 ^ (base + 1074).toNat : Nat) := by
    rw [htot, signed_eq, signed_eq, Int.add_mul, sg_mul, sg_mul, Nat.mul_assoc, Nat.mul_assoc, ← Nat.pow_add, ← Nat.pow_add]
    rw [show (i - base).toNat + (base + 1074).toNat = (i + 1074).toNat by omega, show (j - base).toNat + (base + 1074).toNat = (j + 1074).toNat by omega]
  have hp := Nat.two_pow_pos (base + 1074).toNat
  have hsgn : (if total = 0 then s && t else decide (total < 0)) = (if total * ((2 ^ (base + 1074).toNat : Nat) : Int) = 0 then s && t else decide (total * ((2 ^ (base + 1074).toNat : Nat) : Int) < 0)) := by
    generalize 2 ^ (base + 1074).toNat = P at *
    have hP : (0 : Int) < P := by omega
    have e1 : total * (P : Int) = 0 ↔ total = 0 := by rw [Int.mul_eq_zero]; omega
    have e2 : total * (P : Int) < 0 ↔ total < 0 := by
      constructor
      · intro h
        rcases Int.lt_or_le total 0 with h1 | h1
        · exact h1
        · have := Int.mul_nonneg h1 (Int.le_of_lt hP); omega
      · intro h
        exact Int.mul_neg_of_neg_of_pos h hP
    simp only [e1, e2]
  have hadd : double.add x y = some (double.write (.number (if total = 0 then s && t else decide (total < 0)) total.natAbs base)) := by
    unfold Format.add
    rw [hx, hy]
    simp only [Datum.sum]
    rw [← hbase, ← htot]
    rfl
  refine ⟨_, hadd, ?_⟩
  rw [hT] at hb ⊢
  rw [← hsgn]
  have hW : (total * ((2 ^ (base + 1074).toNat : Nat) : Int)).natAbs = total.natAbs * 2 ^ (base + 1074).toNat := by rw [Int.natAbs_mul, Int.natAbs_natCast]
  rw [hW] at hb ⊢
  have hw : double.write (.number (if total = 0 then s && t else decide (total < 0)) total.natAbs base) = double.nearest (if total = 0 then s && t else decide (total < 0)) total.natAbs base := by simp [Format.write]
  rw [hw]
  rcases near_fin (if total = 0 then s && t else decide (total < 0)) total.natAbs (total.natAbs * 2 ^ (base + 1074).toNat) (base + 1074).toNat 0 base (by omega) (by rw [Nat.pow_zero, Nat.mul_one]) with h1 | ⟨_, h2⟩
  · exact h1
  · omega

/-- k hundredths -/
structure Hundredth (k : Int) (t : Bool) (D : Nat) : Prop where
  sign : t = decide (k < 0)
  zero : k = 0 → D = 0
  ex : ∃ m, D = m * 2 ^ 1015 ∧ 100 * m ≤ k.natAbs * 2 ^ 59 + 2 ^ 20 ∧ k.natAbs * 2 ^ 59 ≤ 100 * m + 2 ^ 20

def HUNDRED : Nat := 4636737291354636288
def kword (k : Int) : Nat := if k < 0 then 2 ^ 63 + kw k.natAbs else kw k.natAbs
  where kw : Nat → Nat | 0 => 0 | 1 => 4576918229304087675 | 2 => 4581421828931458171 | 3 => 4584304132692975288 | _ => 4585925428558828667
theorem k_div : ∀ k ∈ [(-4 : Int), -3, -2, -1, 0, 1, 2, 3, 4], double.div (double.write (.number (decide (k < 0)) k.natAbs 0)) HUNDRED = some (kword k) := by decide +kernel
def kdat (k : Int) : Nat × Nat := match k.natAbs with
  | 0 => (0, 0) | 1 => (5764607523034235, 0) | 2 => (5764607523034235, 1) | 3 => (8646911284551352, 1) | _ => (5764607523034235, 2)
theorem k_read : ∀ k ∈ [(-4 : Int), -3, -2, -1, 1, 2, 3, 4], double.read (kword k) = .number (decide (k < 0)) (kdat k).1 (-59 + (kdat k).2) ∧ 100 * ((kdat k).1 * 2 ^ (kdat k).2) ≤ k.natAbs * 2 ^ 59 + 2 ^ 20 ∧ k.natAbs * 2 ^ 59 ≤ 100 * ((kdat k).1 * 2 ^ (kdat k).2) + 2 ^ 20 := by decide +kernel
theorem k_fin (k : Int) (h : -4 ≤ k ∧ k ≤ 4) : ∃ y D t, double.div (double.write (.number (decide (k < 0)) k.natAbs 0)) HUNDRED = some y ∧ Fin (double.read y) t D ∧ Hundredth k t D := by
  have hk : k ∈ [(-4 : Int), -3, -2, -1, 0, 1, 2, 3, 4] := by simp; omega
  by_cases h0 : k = 0
  · subst h0
    exact ⟨_, 0, false, k_div _ hk, ⟨0, -1074, by decide, by omega, by simp⟩, rfl, fun _ => rfl, 0, by simp, by simp, by simp⟩
  · have hk2 : k ∈ [(-4 : Int), -3, -2, -1, 1, 2, 3, 4] := by simp; omega
    obtain ⟨h1, h2, h3⟩ := k_read k hk2
    refine ⟨_, (kdat k).1 * 2 ^ (-59 + ((kdat k).2 : Int) + 1074).toNat, _, k_div _ hk, ⟨_, _, h1, by omega, rfl⟩, rfl, fun h => absurd h h0, _, ?_, h2, h3⟩
    rw [Nat.mul_assoc, ← Nat.pow_add]
    congr 2
    omega

/-- what Float tells of t -/
structure Floats (t : Int) (s : Bool) (X : Nat) : Prop where
  sign : s = decide (t < 0)
  zero : t = 0 → X = 0
  tenth : t ≠ 0 → Tenth (t.natAbs * 2 ^ 1074) X
theorem sg_abs (t : Int) (V : Nat) : sg (decide (t < 0)) (t.natAbs * V) = t * V := by
  unfold sg
  by_cases h : t < 0
  · rw [if_pos (by simpa using h)]
    have : ((t.natAbs * V : Nat) : Int) = -t * V := by rw [Int.natCast_mul]; congr 1; omega
    rw [this, Int.neg_mul, Int.neg_neg]
  · rw [if_neg (by simpa using h)]
    rw [Int.natCast_mul]; congr 1; omega
theorem pow1074 : (2 : Int) ^ 1074 = ((2 ^ 1074 : Nat) : Int) := by rw [Int.natCast_pow]; rfl
theorem Floats.back {t : Int} {s : Bool} {X : Nat} (h : Floats t s X) (hb : -4294967296 ≤ t ∧ t ≤ 4294967296) : tenV s (rnd (10 * X)) = t := by
  have hV : rnd (10 * X) = t.natAbs * 2 ^ 1074 := by
    by_cases h0 : t = 0
    · rw [h.zero h0, h0]; simp [(rnd_small (W := 0) (by decide)).1]
    · exact (tenth_back (h.tenth h0) (by omega)).1
  rw [hV]
  have e : sg s (t.natAbs * 2 ^ 1074) = t * (2 : Int) ^ 1074 := by rw [h.sign, sg_abs, pow1074]
  refine ten_unique ?_ ?_ (by omega) (by omega)
  · rw [e, Int.sub_mul, Int.one_mul]
    have : (0 : Int) < 2 ^ 1074 := by rw [pow1074]; have := Nat.two_pow_pos 1074; omega
    omega
  · rw [e]; exact Int.le_refl _
theorem sg_nat (T : Int) (s : Bool) (h : s = if T = 0 then s else decide (T < 0)) (A : Nat) (e : Nat) (h1 : A ≤ T.natAbs + e) (h2 : T.natAbs ≤ A + e) : sg s A ≤ T + e ∧ T ≤ sg s A + e := by
  unfold sg
  by_cases h0 : T = 0
  · subst h0
    simp at h1
    cases s <;> simp <;> omega
  · rw [if_neg h0] at h
    by_cases hT : T < 0
    · rw [decide_eq_true hT] at h; subst h; simp; omega
    · rw [decide_eq_false hT] at h; subst h; simp; omega
theorem sg_zero (s : Bool) : sg s 0 = 0 := by cases s <;> rfl
theorem ten_zero (s : Bool) : tenV s (rnd (10 * rnd 0)) = 0 := by
  have e : rnd 0 = 0 := (rnd_small (by decide)).1
  rw [e, Nat.mul_zero, e]
  exact ten_unique (by rw [sg_zero, pow1074]; have := Nat.two_pow_pos 1074; omega) (by rw [sg_zero]; simp) (by omega) (by omega)
theorem Floats.near {t : Int} {s : Bool} {X : Nat} (h : Floats t s X) (hb : -4294967296 ≤ t ∧ t ≤ 4294967296) :
    10 * sg s X ≤ t * (2 : Int) ^ 1074 + 5 * (2 ^ 1064 : Nat) ∧ t * (2 : Int) ^ 1074 ≤ 10 * sg s X + 5 * (2 ^ 1064 : Nat) := by
  rw [pow1074]
  by_cases h0 : t = 0
  · rw [h.zero h0, sg_zero, h0]
    omega
  · obtain ⟨_, h1, h2⟩ := tenth_back (h.tenth h0) (by omega)
    have e := sg_abs t (2 ^ 1074)
    rw [← h.sign] at e
    rw [← e]
    clear e
    obtain ⟨V, hV⟩ : ∃ V, V = t.natAbs * 2 ^ 1074 := ⟨_, rfl⟩
    obtain ⟨E, hE⟩ : ∃ E : Nat, E = 2 ^ 1064 := ⟨_, rfl⟩
    rw [← hV] at h1 h2 ⊢
    rw [← hE] at h1 h2 ⊢
    clear hV hE
    cases s <;> simp [sg] <;> omega
theorem Floats.rep {t : Int} {s : Bool} {X : Nat} (h : Floats t s X) : rnd X = X := by
  by_cases h0 : t = 0
  · rw [h.zero h0]; exact (rnd_small (by decide)).1
  · obtain ⟨q, N, rfl, _, h2, _⟩ := h.tenth h0
    rcases Nat.lt_or_eq_of_le h2 with h3 | h3
    · exact rnd_exact N h3
    · rw [h3, ← Nat.pow_add]
      have := rnd_exact (c := 1) (53 + N) (by decide)
      rwa [Nat.one_mul] at this
theorem Floats.pos {t : Int} {s : Bool} {X : Nat} (h : Floats t s X) (h0 : t ≠ 0) : X ≠ 0 := by
  obtain ⟨q, N, rfl, h1, _, _⟩ := h.tenth h0
  have := Nat.two_pow_pos N
  exact Nat.mul_ne_zero (by omega) (by omega)
theorem Floats.far {t k : Int} {s tk : Bool} {X D : Nat} (h : Floats t s X) (hd : Hundredth k tk D) (hb : -4294967296 ≤ t ∧ t ≤ 4294967296) (hk : -4 ≤ k ∧ k ≤ 4) :
    (sg s X + sg tk D).natAbs < 2 ^ 1200 ∧
    tenV (if sg s X + sg tk D = 0 then s && tk else decide (sg s X + sg tk D < 0)) (rnd (10 * rnd (sg s X + sg tk D).natAbs)) = if 0 < k then t + 1 else t := by
  have hn := h.near hb
  obtain ⟨m, hD, hm1, hm2⟩ := hd.ex
  obtain ⟨u, hu⟩ : ∃ u : Nat, u = 2 ^ 1015 := ⟨_, rfl⟩
  have e1 : (2 : Nat) ^ 1074 = 2 ^ 59 * u := by rw [hu, ← Nat.pow_add]
  have e2 : (2 : Nat) ^ 1064 = 2 ^ 49 * u := by rw [hu, ← Nat.pow_add]
  have e3 : (2 : Nat) ^ 1200 = 2 ^ 185 * u := by rw [hu, ← Nat.pow_add]
  have hu0 : 0 < u := by rw [hu]; exact Nat.two_pow_pos 1015
  rw [← hu] at hD
  have hD1 : 100 * D ≤ k.natAbs * 2 ^ 59 * u + 2 ^ 20 * u := by
    rw [hD, ← Nat.add_mul, ← Nat.mul_assoc]; exact Nat.mul_le_mul_right _ hm1
  have hD2 : k.natAbs * 2 ^ 59 * u ≤ 100 * D + 2 ^ 20 * u := by
    rw [hD, ← Nat.mul_assoc, ← Nat.add_mul]; exact Nat.mul_le_mul_right _ hm2
  have hU : (2 : Int) ^ 1074 = 2 ^ 59 * (u : Int) := by rw [pow1074, e1, Int.natCast_mul]; rfl
  obtain ⟨P, hPP⟩ : ∃ P : Int, P = t * (2 : Int) ^ 1074 := ⟨_, rfl⟩
  have hP : -(4294967296 * (2 ^ 59 * (u : Int))) ≤ P ∧ P ≤ 4294967296 * (2 ^ 59 * (u : Int)) := by
    rw [hPP, hU, ← Int.neg_mul]
    have hnn : (0 : Int) ≤ 2 ^ 59 * (u : Int) := by omega
    exact ⟨Int.mul_le_mul_of_nonneg_right hb.1 hnn, Int.mul_le_mul_of_nonneg_right hb.2 hnn⟩
  rw [← hPP, e2] at hn
  have hcast : ((2 ^ 49 * u : Nat) : Int) = 2 ^ 49 * (u : Int) := by rw [Int.natCast_mul]; rfl
  rw [hcast] at hn
  have en : ∀ n : Int, n = t ∨ n = t + 1 → n * (2 : Int) ^ 1074 = P + (if n = t then 0 else 2 ^ 59 * (u : Int)) := by
    rintro n (rfl | rfl)
    · rw [if_pos rfl, hPP]; omega
    · rw [if_neg (by omega), hPP, Int.add_mul, Int.one_mul, ← hU]
  have hsD : sg tk D = if k < 0 then -(D : Int) else D := by rw [hd.sign]; unfold sg; by_cases hk0 : k < 0 <;> simp [hk0]
  have hkk : k.natAbs * 2 ^ 59 * u = 0 ∨ k.natAbs * 2 ^ 59 * u = 2 ^ 59 * u ∨ k.natAbs * 2 ^ 59 * u = 2 * (2 ^ 59 * u) ∨ k.natAbs * 2 ^ 59 * u = 3 * (2 ^ 59 * u) ∨ k.natAbs * 2 ^ 59 * u = 4 * (2 ^ 59 * u) := by
    have hka : k.natAbs = 0 ∨ k.natAbs = 1 ∨ k.natAbs = 2 ∨ k.natAbs = 3 ∨ k.natAbs = 4 := by omega
    rcases hka with h | h | h | h | h <;> rw [h] <;> omega
  have hkz : k ≠ 0 → k.natAbs * 2 ^ 59 * u ≠ 0 := by
    intro h0
    have : 1 * 2 ^ 59 * u ≤ k.natAbs * 2 ^ 59 * u := Nat.mul_le_mul_right _ (Nat.mul_le_mul_right _ (by omega))
    omega
  clear hm1 hm2 hD hu hPP e1 e2
  have hX200 : (sg s X + sg tk D).natAbs < 2 ^ 1200 := by
    rw [e3]
    clear e3 hU en
    generalize k.natAbs * 2 ^ 59 * u = kk at *
    split at hsD <;> rcases hkk with h | h | h | h | h <;> omega
  refine ⟨hX200, ?_⟩
  clear hX200 e3
  by_cases hk0 : k = 0
  · rw [if_neg (show ¬ 0 < k by omega)]
    have hD0 := hd.zero hk0
    subst hD0
    rw [sg_zero, Int.add_zero]
    have hab : (sg s X).natAbs = X := by cases s <;> simp [sg]
    rw [hab, h.rep]
    by_cases h0 : t = 0
    · rw [h.zero h0, h0]
      have := ten_zero (if sg s 0 = 0 then s && tk else decide (sg s 0 < 0))
      rwa [(rnd_small (W := 0) (by decide)).1] at this
    · have hX0 := h.pos h0
      have : (if sg s X = 0 then s && tk else decide (sg s X < 0)) = s := by
        rw [if_neg (by cases s <;> simp [sg] <;> omega)]
        cases s <;> simp [sg] <;> omega
      rw [this]
      exact h.back hb
  · have hkz' := hkz hk0
    obtain ⟨a1, h1, h2, h3⟩ := rnd_err (sg s X + sg tk D).natAbs
    obtain ⟨a2, h4, h5, h6⟩ := rnd_err (10 * rnd (sg s X + sg tk D).natAbs)
    have hsg := sg_nat (10 * (sg s X + sg tk D)) (if sg s X + sg tk D = 0 then s && tk else decide (sg s X + sg tk D < 0)) (by
      have q1 : 10 * (sg s X + sg tk D) = 0 ↔ sg s X + sg tk D = 0 := by omega
      have q2 : 10 * (sg s X + sg tk D) < 0 ↔ sg s X + sg tk D < 0 := by omega
      simp only [q1, q2]
      split <;> rfl) (rnd (10 * rnd (sg s X + sg tk D).natAbs)) (10 * a1 + a2) (by omega) (by omega)
    have hnn : (if 0 < k then t + 1 else t) = t ∨ (if 0 < k then t + 1 else t) = t + 1 := by split <;> simp
    have fin : ((if 0 < k then t + 1 else t) - 1) * (2 : Int) ^ 1074 < sg (if sg s X + sg tk D = 0 then s && tk else decide (sg s X + sg tk D < 0)) (rnd (10 * rnd (sg s X + sg tk D).natAbs)) ∧ sg (if sg s X + sg tk D = 0 then s && tk else decide (sg s X + sg tk D < 0)) (rnd (10 * rnd (sg s X + sg tk D).natAbs)) ≤ (if 0 < k then t + 1 else t) * (2 : Int) ^ 1074 := by
      rw [Int.sub_mul, Int.one_mul, en _ hnn, hU]
      clear en hU
      generalize sg (if sg s X + sg tk D = 0 then s && tk else decide (sg s X + sg tk D < 0)) (rnd (10 * rnd (sg s X + sg tk D).natAbs)) = R at *
      generalize rnd (10 * rnd (sg s X + sg tk D).natAbs) = B at *
      generalize rnd (sg s X + sg tk D).natAbs = A at *
      generalize k.natAbs * 2 ^ 59 * u = kk at *
      by_cases hkp : 0 < k
      · rw [if_pos hkp] at hnn ⊢
        rw [if_neg (by omega)] at hsD
        rw [if_neg (by omega)]
        rw [hsD] at *
        generalize sg s X = x at *
        rcases hkk with h | h | h | h | h
        · exact absurd h hkz'
        all_goals
          subst h
          constructor <;> omega
      · rw [if_neg hkp] at hnn ⊢
        rw [if_pos (by omega)] at hsD
        rw [if_pos rfl]
        rw [hsD] at *
        generalize sg s X = x at *
        rcases hkk with h | h | h | h | h
        · exact absurd h hkz'
        all_goals
          subst h
          constructor <;> omega
    exact ten_unique fin.1 fin.2 (by omega) (by omega)
end Go.Proofs.YtlnlbnpabaddkaaDoor
