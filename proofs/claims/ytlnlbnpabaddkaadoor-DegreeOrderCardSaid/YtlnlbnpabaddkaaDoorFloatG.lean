/-
  Plain laws of float64: an order of tenths.
-/
import Derived.Test.YtlnlbnpabaddkaaDoorFloatF
namespace Go.Proofs.YtlnlbnpabaddkaaDoor
open Ieee
set_option exponentiation.threshold 4000

/-- an infinity counts as so many units -/
def INF : Nat := 2 ^ 3000
/-- the word is a number of V units, or an infinity -/
def Val (x : Nat) (s : Bool) (V : Nat) : Prop := (Fin (double.read x) s V ∧ V < INF) ∨ (double.read x = .infinity s ∧ V = INF)

theorem read_cases (x : Nat) : (∃ s V, Val x s V) ∨ ∃ s t, double.read x = .nan s t := by
  cases h : double.read x with
  | number s m i =>
    left
    refine ⟨s, m * 2 ^ (i + 1074).toNat, Or.inl ⟨⟨m, i, h, ?_, rfl⟩, ?_⟩⟩
    · unfold Format.read at h
      simp only [binade_eq, leastPlace_eq] at h
      split at h
      · cases h; omega
      · split at h
        · cases h; omega
        · split at h <;> cases h
    · have hm := read_small h
      have hi : i ≤ 1000 := by
        unfold Format.read at h
        simp only [binade_eq, leastPlace_eq, inf_eq] at h
        split at h
        · cases h; omega
        · split at h
          · cases h; omega
          · split at h <;> cases h
      have g : m * 2 ^ (i + 1074).toNat ≤ 2 ^ 53 * 2 ^ 2074 := Nat.mul_le_mul (by omega) (Nat.pow_le_pow_right (by omega) (by omega))
      rw [← Nat.pow_add] at g
      exact Nat.lt_of_le_of_lt g (Nat.pow_lt_pow_right (by omega) (by omega))
  | infinity s => exact Or.inl ⟨s, INF, Or.inr ⟨h, rfl⟩⟩
  | nan s t => exact Or.inr ⟨s, t, rfl⟩

theorem cmp_lt {a b : Int} (h : a < b) : compare a b = .lt := by rw [cmp_int, if_pos h]
theorem cmp_gt {a b : Int} (h : b < a) : compare a b = .gt := by rw [cmp_int, if_neg (by omega), if_neg (by omega)]
theorem cmp_eq {a : Int} : compare a a = .eq := by rw [cmp_int, if_neg (by omega), if_pos rfl]
theorem order_val {x y : Nat} {s t : Bool} {V U : Nat} (hx : Val x s V) (hy : Val y t U) : double.order x y = some (compare (sg s V) (sg t U)) := by
  have hI : 0 < INF := Nat.two_pow_pos 3000
  rcases hx with ⟨hx, hV⟩ | ⟨hx, rfl⟩ <;> rcases hy with ⟨hy, hU⟩ | ⟨hy, rfl⟩
  · exact order_fin hx hy
  · obtain ⟨m, i, h, _, _⟩ := hx
    unfold Format.order
    rw [h, hy]
    show some _ = _
    congr 1
    symm
    cases t
    · exact cmp_lt (by cases s <;> simp [sg] <;> omega)
    · exact cmp_gt (by cases s <;> simp [sg] <;> omega)
  · obtain ⟨m, i, h, _, _⟩ := hy
    unfold Format.order
    rw [h, hx]
    show some _ = _
    congr 1
    symm
    cases s
    · exact cmp_gt (by cases t <;> simp [sg] <;> omega)
    · exact cmp_lt (by cases t <;> simp [sg] <;> omega)
  · unfold Format.order
    rw [hx, hy]
    show some _ = _
    congr 1
    symm
    cases s <;> cases t
    · exact cmp_eq
    · exact cmp_gt (by simp [sg]; omega)
    · exact cmp_lt (by simp [sg]; omega)
    · exact cmp_eq
theorem e1114 : (2 : Nat) ^ 1114 = 2 ^ 40 * 2 ^ 1074 := by rw [← Nat.pow_add]
/-- tenV, by magnitude -/
theorem ten_range (s : Bool) (V : Nat) : -1099511627776 ≤ tenV s V ∧ tenV s V ≤ 1099511627776 := by
  have h := ten_abs s V
  have : (tenV s V).natAbs ≤ 1099511627776 := by rw [h]; exact Nat.min_le_right _ _
  omega
theorem ceil_mono {V W : Nat} (s : Bool) (h : V ≤ W) : ceilV s V ≤ ceilV s W := by
  have hq : V / 2 ^ 1074 ≤ W / 2 ^ 1074 := Nat.div_le_div_right h
  have d1 := Nat.div_add_mod V (2 ^ 1074)
  have d2 := Nat.div_add_mod W (2 ^ 1074)
  unfold ceilV
  generalize (2 : Nat) ^ 1074 = U at *
  rcases Nat.lt_or_ge (V / U) (W / U) with h1 | h1
  · have a : ∀ (b : Bool), (if b = true then 1 else 0) ≤ 1 := by intro b; cases b <;> simp
    have := a (!s && V % U != 0)
    omega
  · have e : V / U = W / U := by omega
    rw [e] at d1 ⊢
    generalize U * (W / U) = z at *
    have hr : V % U ≤ W % U := by omega
    by_cases h0 : V % U = 0
    · rw [h0]; cases s <;> simp
    · have h2 : W % U ≠ 0 := by omega
      cases s <;> simp [h0, h2]
theorem ten_mono_abs {V W : Nat} (s : Bool) (h : V ≤ W) : (tenV s V).natAbs ≤ (tenV s W).natAbs := by
  rw [ten_abs, ten_abs]
  have := ceil_mono s h
  omega
theorem ten_nonneg (V : Nat) : 0 ≤ tenV false V := by unfold tenV sg; split <;> simp
theorem ten_nonpos (V : Nat) : tenV true V ≤ 0 := by unfold tenV sg; split <;> simp
theorem ten_mono {s t : Bool} {V U : Nat} (h : sg s V ≤ sg t U) : tenV s (rnd (10 * V)) ≤ tenV t (rnd (10 * U)) := by
  cases s <;> cases t
  · have h' : V ≤ U := by simp [sg] at h; omega
    have := ten_mono_abs false (rnd_mono (Nat.mul_le_mul_left 10 h'))
    have a := ten_nonneg (rnd (10 * V))
    have b := ten_nonneg (rnd (10 * U))
    omega
  · have hV : V = 0 ∧ U = 0 := by simp [sg] at h; omega
    rw [hV.1, hV.2]
    have e : rnd (10 * 0) = 0 := (rnd_small (by decide)).1
    have z := ten_zero false
    have z2 := ten_zero true
    rw [(rnd_small (W := 0) (by decide)).1] at z z2
    rw [z, z2]; exact Int.le_refl _
  · have a := ten_nonpos (rnd (10 * V))
    have b := ten_nonneg (rnd (10 * U))
    omega
  · have h' : U ≤ V := by simp [sg] at h; omega
    have := ten_mono_abs true (rnd_mono (Nat.mul_le_mul_left 10 h'))
    have a := ten_nonpos (rnd (10 * V))
    have b := ten_nonpos (rnd (10 * U))
    omega
theorem int_val (a : Int) (h : a.natAbs < 2 ^ 53) : Val (double.write (.number (decide (a < 0)) a.natAbs 0)) (decide (a < 0)) (a.natAbs * 2 ^ 1074) := by
  refine Or.inl ⟨enc_int _ h, ?_⟩
  have : a.natAbs * 2 ^ 1074 < 2 ^ 53 * 2 ^ 1074 := Nat.mul_lt_mul_of_pos_right h (Nat.two_pow_pos 1074)
  rw [← Nat.pow_add] at this
  exact Nat.lt_trans this (Nat.pow_lt_pow_right (by omega) (by omega))
/-- a small number's ceiling is not below it, and less than one above -/
theorem ceil_bounds (s : Bool) (V : Nat) : sg s V ≤ sg s (ceilV s V) * ((2 ^ 1074 : Nat) : Int) ∧ (sg s (ceilV s V) - 1) * ((2 ^ 1074 : Nat) : Int) < sg s V := by
  have hp := Nat.two_pow_pos 1074
  have d := Nat.div_add_mod V (2 ^ 1074)
  have hm := Nat.mod_lt V hp
  unfold ceilV
  generalize (2 : Nat) ^ 1074 = U at *
  generalize V / U = Q at *
  generalize V % U = R at *
  have dI : (Q : Int) * U + R = V := by rw [Int.mul_comm]; exact_mod_cast d
  rw [Int.sub_mul, Int.one_mul]
  cases s
  · by_cases h0 : R = 0
    · subst h0; simp [sg]; omega
    · simp [sg, h0, Int.add_mul]; omega
  · simp [sg, Int.neg_mul]; omega
theorem top_int : (1099511627776 : Int) * ((2 ^ 1074 : Nat) : Int) = ((2 ^ 1114 : Nat) : Int) := by rw [e1114, Int.natCast_mul]; rfl
theorem top_inf : 2 ^ 1114 ≤ rnd (10 * INF) := rnd_ge (Nat.le_trans (Nat.pow_le_pow_right (by omega) (by omega) : 2 ^ 1114 ≤ 2 ^ 3000) (Nat.le_mul_of_pos_left _ (by omega)))
/-- what the law asks of a number's tenths -/
theorem ten_tests {x : Nat} {s : Bool} {V : Nat} (hx : Val x s V) : ∃ y a, double.mul x TEN = some y ∧ a = tenV s (rnd (10 * V)) ∧
    (double.order (double.write (.number (decide (a < 0)) a.natAbs 0)) y = some .gt ∨ double.order (double.write (.number (decide (a < 0)) a.natAbs 0)) y = some .eq ∨ (double.order (double.write (.number (decide (a < 0)) a.natAbs 0)) y = some .lt ∧ a = 1099511627776)) ∧
    (double.order (double.write (.number (decide (a - 1 < 0)) (a - 1).natAbs 0)) y = some .lt ∨ (double.order (double.write (.number (decide (a - 1 < 0)) (a - 1).natAbs 0)) y = some .eq ∧ a = -1099511627776) ∨ (double.order (double.write (.number (decide (a - 1 < 0)) (a - 1).natAbs 0)) y = some .gt ∧ a = -1099511627776)) := by
  have hr := ten_range s (rnd (10 * V))
  have hT := top_int
  have hy : ∃ y U, double.mul x TEN = some y ∧ Val y s U ∧ (U = rnd (10 * V) ∨ (2 ^ 1114 ≤ rnd (10 * V) ∧ 2 ^ 1114 ≤ U)) := by
    rcases hx with ⟨hx, hV⟩ | ⟨hx, rfl⟩
    · obtain ⟨y, h1, h2 | ⟨h2, h3⟩⟩ := mul_ten hx
      · refine ⟨y, _, h1, Or.inl ⟨h2, ?_⟩, Or.inl rfl⟩
        obtain ⟨m, i, hr, _, hm⟩ := h2
        rcases read_cases y with ⟨s', V', h | h⟩ | ⟨s', t', h⟩
        · obtain ⟨⟨m', i', hr', _, hm'⟩, hlt⟩ := h
          rw [hr] at hr'
          cases hr'
          rw [← hm, hm']; exact hlt
        · rw [hr] at h; cases h.1
        · rw [hr] at h; cases h
      · have h4 : 2 ^ 1114 ≤ rnd (10 * V) := Nat.le_trans (Nat.pow_le_pow_right (by omega) (by omega)) (rnd_ge h3)
        exact ⟨y, INF, h1, Or.inr ⟨h2, rfl⟩, Or.inr ⟨h4, Nat.pow_le_pow_right (by omega) (by omega)⟩⟩
    · have h4 : 2 ^ 1114 ≤ rnd (10 * INF) := rnd_ge (Nat.le_trans (Nat.pow_le_pow_right (by omega) (by omega) : 2 ^ 1114 ≤ 2 ^ 3000) (Nat.le_mul_of_pos_left _ (by omega)))
      refine ⟨_, INF, by unfold Format.mul; rw [hx, ten_fin]; simp only [Datum.product]; rw [if_neg (by decide)]; rfl, Or.inr ⟨?_, rfl⟩, Or.inr ⟨h4, Nat.pow_le_pow_right (by omega) (by omega)⟩⟩
      have : double.write (.infinity (s ^^ false)) = double.word s double.infRung := by simp [Format.write]
      rw [this]; exact read_inf
  obtain ⟨y, U, h1, h2, h3⟩ := hy
  refine ⟨y, _, h1, rfl, ?_, ?_⟩
  all_goals
    generalize ha : tenV s (rnd (10 * V)) = a at *
  · rw [order_val (int_val a (by omega)) h2, sg_abs]
    have key : sg s U ≤ a * ((2 ^ 1074 : Nat) : Int) ∨ a = 1099511627776 := by
      by_cases hb : 2 ^ 1114 ≤ U
      · have hb2 : 2 ^ 1114 ≤ rnd (10 * V) := by rcases h3 with h | h; · rw [← h]; exact hb
                                                 · exact h.1
        unfold tenV at ha
        rw [if_pos hb2] at ha
        cases s
        · right; exact ha.symm
        · left
          have e : a = -1099511627776 := ha.symm
          rw [e, Int.neg_mul, hT]
          simp only [sg, if_true]
          generalize (2 : Nat) ^ 1114 = W at *
          omega
      · rcases h3 with h | h
        · left
          unfold tenV at ha
          rw [← h, if_neg hb] at ha
          rw [← ha]
          exact (ceil_bounds s U).1
        · exact absurd h.2 hb
    generalize a * ((2 ^ 1074 : Nat) : Int) = A at *
    rcases Int.lt_trichotomy A (sg s U) with h | h | h
    · right; right
      refine ⟨by rw [cmp_lt h], ?_⟩
      rcases key with k | k
      · omega
      · exact k
    · right; left; rw [h, cmp_eq]
    · left; rw [cmp_gt h]
  · rw [order_val (int_val (a - 1) (by omega)) h2, sg_abs]
    have key : (a - 1) * ((2 ^ 1074 : Nat) : Int) < sg s U ∨ a = -1099511627776 := by
      by_cases hb : 2 ^ 1114 ≤ U
      · have hb2 : 2 ^ 1114 ≤ rnd (10 * V) := by rcases h3 with h | h; · rw [← h]; exact hb
                                                 · exact h.1
        unfold tenV at ha
        rw [if_pos hb2] at ha
        cases s
        · left
          have e : a = 1099511627776 := ha.symm
          rw [e, Int.sub_mul, Int.one_mul, hT]
          have hp := Nat.two_pow_pos 1074
          simp only [sg]
          generalize (2 : Nat) ^ 1114 = W at *
          simp only [Bool.false_eq_true, if_false]
          omega
        · right; exact ha.symm
      · rcases h3 with h | h
        · left
          unfold tenV at ha
          rw [← h, if_neg hb] at ha
          rw [← ha]
          exact (ceil_bounds s U).2
        · exact absurd h.2 hb
    generalize (a - 1) * ((2 ^ 1074 : Nat) : Int) = A at *
    rcases Int.lt_trichotomy A (sg s U) with h | h | h
    · left; rw [cmp_lt h]
    · right; left
      refine ⟨by rw [h, cmp_eq], ?_⟩
      rcases key with k | k
      · omega
      · exact k
    · right; right
      refine ⟨by rw [cmp_gt h], ?_⟩
      rcases key with k | k
      · omega
      · exact k
end Go.Proofs.YtlnlbnpabaddkaaDoor
