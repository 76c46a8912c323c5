/-
  Plain laws of float64: reading a word, order, ceiling, product by ten.
-/
import Derived.Test.YtlnlbnpabaddkaaDoorFloat
namespace Go.Proofs.YtlnlbnpabaddkaaDoor
open Ieee
set_option exponentiation.threshold 3000

/-- the datum is a finite number of V units, with its sign -/
def Fin (d : Datum) (s : Bool) (V : Nat) : Prop := ∃ (m : Nat) (i : Int), d = .number s m i ∧ -1074 ≤ i ∧ m * 2 ^ (i + 1074).toNat = V
def sg (s : Bool) (V : Nat) : Int := if s then -(V : Int) else V

theorem leastPlace_eq : double.leastPlace = -1074 := by decide
theorem binade_eq : double.binade = 2 ^ 52 := by decide
theorem inf_eq : double.infRung = 2047 * 2 ^ 52 := by decide
theorem sign_eq : double.signWeight = 2 ^ 63 := by decide

theorem read_number (b : Nat) (s : Bool) (hs : (b / 2 ^ 63 % 2 == 1) = s) (h : b % 2 ^ 63 < 2047 * 2 ^ 52) : Fin (double.read b) s (valr (b % 2 ^ 63)) := by
  unfold Format.read
  simp only [sign_eq, binade_eq, inf_eq, leastPlace_eq, hs]
  generalize b % 2 ^ 63 = r at *
  unfold valr
  by_cases h1 : r < 2 ^ 52
  · rw [if_pos h1, if_pos h1]
    exact ⟨r, -1074, rfl, by omega, by simp⟩
  · rw [if_neg h1, if_pos h, if_neg h1]
    refine ⟨_, _, rfl, by omega, ?_⟩
    congr 2
    omega
theorem read_word {s : Bool} {r : Nat} (h : r < 2047 * 2 ^ 52) : Fin (double.read (double.word s r)) s (valr r) := by
  unfold Format.word
  rw [sign_eq]
  cases s
  · have e : r % 2 ^ 63 = r := by omega
    have := read_number r false (by rw [beq_eq_false_iff_ne]; omega) (by omega)
    rw [e] at this
    exact this
  · have e : (2 ^ 63 + r) % 2 ^ 63 = r := by omega
    have := read_number (2 ^ 63 + r) true (by rw [beq_iff_eq]; omega) (by omega)
    rw [e] at this
    exact this
theorem read_inf {s : Bool} : double.read (double.word s double.infRung) = .infinity s := by cases s <;> decide

theorem cmp_int (a b : Int) : compare a b = if a < b then .lt else if a = b then .eq else .gt := rfl
theorem cmp_mul (a b : Int) (k : Nat) (hk : 0 < k) : compare (a * k) (b * k) = compare a b := by
  have hk' : (0 : Int) < k := by omega
  rw [cmp_int, cmp_int]
  have e1 : a * k < b * k ↔ a < b := Int.mul_lt_mul_right hk'
  have e2 : a * k = b * k ↔ a = b := Int.mul_eq_mul_right_iff (by omega)
  simp only [e1, e2]
theorem signed_eq (s : Bool) (m u : Nat) : signed s m u = sg s (m * 2 ^ u) := by unfold signed sg; rw [Nat.shiftLeft_eq]
theorem sg_mul (s : Bool) (m k : Nat) : sg s m * k = sg s (m * k) := by
  unfold sg
  cases s
  · simp
  · simp [Int.neg_mul]
theorem order_fin {d e : Datum} {s t : Bool} {V U : Nat} (hd : Fin d s V) (he : Fin e t U) : d.order e = some (compare (sg s V) (sg t U)) := by
  obtain ⟨m, i, rfl, hi, rfl⟩ := hd
  obtain ⟨n, j, rfl, hj, rfl⟩ := he
  simp only [Datum.order, signed_eq]
  obtain ⟨base, hb⟩ : ∃ base, base = min i j := ⟨_, rfl⟩
  rw [← hb]
  rw [← cmp_mul _ _ (2 ^ (base + 1074).toNat) (Nat.two_pow_pos _), sg_mul, sg_mul, Nat.mul_assoc, Nat.mul_assoc, ← Nat.pow_add, ← Nat.pow_add]
  rw [show (i - base).toNat + (base + 1074).toNat = (i + 1074).toNat by omega, show (j - base).toNat + (base + 1074).toNat = (j + 1074).toNat by omega]

theorem cut_parts {X V v c : Nat} (h : X * 2 ^ c = V) (hv : v + c = 1074) : X / (1 <<< min v (X.log2 + 2)) = V / 2 ^ 1074 ∧ (X % (1 <<< min v (X.log2 + 2)) = 0 ↔ V % 2 ^ 1074 = 0) := by
  have hs := scale (X := X) (W := V) (v := v) (n := 1074) (c := c) (d := 0) (by simpa using h) (by omega)
  obtain ⟨h1, h2, _⟩ := hs
  rw [Nat.pow_zero, Nat.mul_one] at h2
  rw [Nat.shiftLeft_eq, Nat.one_mul, ← h1, ← h2]
  by_cases hl : v ≤ X.log2 + 2
  · rw [Nat.min_eq_left hl]
    refine ⟨rfl, ?_⟩
    rw [Nat.mul_eq_zero]
    have := Nat.two_pow_pos c
    omega
  · rw [Nat.min_eq_right (by omega)]
    have a1 : X < 2 ^ (X.log2 + 2) := Nat.lt_of_lt_of_le (Nat.lt_log2_self) (Nat.pow_le_pow_right (by omega) (by omega))
    have a2 : X < 2 ^ v := Nat.lt_of_lt_of_le a1 (Nat.pow_le_pow_right (by omega) (by omega))
    rw [Nat.div_eq_of_lt a1, Nat.div_eq_of_lt a2, Nat.mod_eq_of_lt a1, Nat.mod_eq_of_lt a2, Nat.mul_eq_zero]
    have := Nat.two_pow_pos c
    exact ⟨rfl, by omega⟩
/-- the least whole number that is not below, as a magnitude -/
def ceilV (s : Bool) (V : Nat) : Nat := V / 2 ^ 1074 + if !s && V % 2 ^ 1074 != 0 then 1 else 0
theorem shift_parts {m V : Nat} {i : Int} (hi : -1074 ≤ i) (h : m * 2 ^ (i + 1074).toNat = V) : ∃ c, (m <<< i.toNat) * 2 ^ c = V ∧ (-i).toNat + c = 1074 := by
  refine ⟨1074 - (-i).toNat, ?_, by omega⟩
  rw [Nat.shiftLeft_eq, Nat.mul_assoc, ← Nat.pow_add, ← h]
  congr 2
  omega
theorem ceil_fin {d : Datum} {s : Bool} {V : Nat} (h : Fin d s V) : d.integral .up = .number s (ceilV s V) 0 := by
  obtain ⟨m, i, rfl, hi, h⟩ := h
  obtain ⟨c, h1, h2⟩ := shift_parts hi h
  obtain ⟨h3, h4⟩ := cut_parts h1 h2
  simp only [Datum.integral]
  congr 1
  unfold Toward.cut ceilV
  simp only [h3]
  congr 1
  by_cases a : V % 2 ^ 1074 = 0
  · rw [a, h4.2 a]; simp
  · have b : ¬ (m <<< i.toNat) % (1 <<< min (-i).toNat ((m <<< i.toNat).log2 + 2)) = 0 := fun h => a (h4.1 h)
    generalize (m <<< i.toNat) % (1 <<< min (-i).toNat ((m <<< i.toNat).log2 + 2)) = r at *
    generalize V % 2 ^ 1074 = r' at *
    cases s <;> simp [a, b]
theorem toInt_fin {d : Datum} {s : Bool} {V : Nat} (h : Fin d s V) : d.toInt .zero = some (sg s (V / 2 ^ 1074)) := by
  obtain ⟨m, i, rfl, hi, h⟩ := h
  obtain ⟨c, h1, h2⟩ := shift_parts hi h
  obtain ⟨h3, _⟩ := cut_parts h1 h2
  simp only [Datum.toInt, Datum.integral, Option.some.injEq]
  unfold Toward.cut
  simp only [h3]
  rw [signed_eq]
  generalize V / 2 ^ 1074 = Q
  simp
end Go.Proofs.YtlnlbnpabaddkaaDoor
