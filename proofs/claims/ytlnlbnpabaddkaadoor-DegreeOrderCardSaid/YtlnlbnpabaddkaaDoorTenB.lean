/-
  The contract of degree.Tenths, joined; of degree.Of.
-/
import Derived.Test.YtlnlbnpabaddkaaDoorTenA
namespace Go.Proofs.YtlnlbnpabaddkaaDoor
open Go.RowKit Ieee
set_option exponentiation.threshold 3000

theorem order_self {d : Datum} {s : Bool} {V : Nat} (h : Fin d s V) : d.order d = some .eq := by
  rw [order_fin h h, cmp_int, if_neg (by omega), if_pos rfl]
theorem cmp_top (s : Bool) (V : Nat) : compare (sg s V) (sg false (2 ^ 1114)) = if s = false ∧ 2 ^ 1114 < V then .gt else if s = false ∧ V = 2 ^ 1114 then .eq else .lt := by
  have hp := Nat.two_pow_pos 1114
  generalize (2 : Nat) ^ 1114 = T at *
  rw [cmp_int]
  unfold sg
  cases s
  · simp only [Bool.false_eq_true, if_false, true_and]
    rcases Nat.lt_trichotomy V T with h | h | h
    · rw [if_pos (by omega), if_neg (by omega), if_neg (by omega)]
    · rw [if_neg (by omega), if_pos (by omega), if_neg (by omega), if_pos h]
    · rw [if_neg (by omega), if_neg (by omega), if_pos h]
  · rw [if_pos (by simp; omega), if_neg (by simp), if_neg (by simp)]
theorem cmp_nop (s : Bool) (V : Nat) : compare (sg s V) (sg true (2 ^ 1114)) = if s = true ∧ 2 ^ 1114 < V then .lt else if s = true ∧ V = 2 ^ 1114 then .eq else .gt := by
  have hp := Nat.two_pow_pos 1114
  generalize (2 : Nat) ^ 1114 = T at *
  rw [cmp_int]
  unfold sg
  cases s
  · simp only [Bool.false_eq_true, if_false, if_true, false_and]
    rw [if_neg (by omega), if_neg (by omega)]
  · simp only [if_true, true_and]
    rcases Nat.lt_trichotomy V T with h | h | h
    · rw [if_neg (by omega), if_neg (by omega), if_neg (by omega), if_neg (by omega)]
    · rw [if_neg (by omega), if_pos (by omega), if_neg (by omega), if_pos h]
    · rw [if_pos (by omega), if_pos h]

/-- Tenths of a finite number -/
theorem degree_Tenths (w : World) (x : Nat) (s : Bool) (V : Nat) (h : Fin (double.read x) s V) :
    Calls Tryd.prog 10 #[.float .f64 x] w fun e w' => e = .returned (.tuple #[.int .i64 (tenV s (rnd (10 * V))), .int .i64 0]) ∧ w = w' := by
  have hs : double.order x x = some .eq := order_self h
  obtain ⟨y, hm, hy | ⟨hy, hV⟩⟩ := mul_ten h
  · generalize rnd (10 * V) = U at *
    have o1 : double.order y TOP = _ := order_fin hy top_fin
    have o2 : double.order y NOP = _ := order_fin hy nop_fin
    rw [cmp_top] at o1
    rw [cmp_nop] at o2
    unfold tenV
    by_cases hU : 2 ^ 1114 ≤ U
    · rw [if_pos hU]
      cases s
      · refine Tenths_hi w x y hs hm ?_
        rw [o1]
        rcases Nat.lt_or_eq_of_le hU with h1 | h1
        · left; rw [if_pos ⟨rfl, h1⟩]
        · right; rw [if_neg (by omega), if_pos ⟨rfl, h1.symm⟩]
      · refine Tenths_lo w x y hs hm (by rw [o1, if_neg (fun h => Bool.noConfusion h.1), if_neg (fun h => Bool.noConfusion h.1)]) ?_
        rw [o2]
        rcases Nat.lt_or_eq_of_le hU with h1 | h1
        · left; rw [if_pos ⟨rfl, h1⟩]
        · right; rw [if_neg (by omega), if_pos ⟨rfl, h1.symm⟩]
    · rw [if_neg hU]
      exact Tenths_mid w x y s U hs hm (by rw [o1, if_neg (by omega), if_neg (by omega)]) (by rw [o2, if_neg (by omega), if_neg (by omega)]) hy (by omega)
  · have hU : 2 ^ 1114 ≤ rnd (10 * V) := Nat.le_trans (Nat.pow_le_pow_right (by omega) (by omega)) (rnd_ge hV)
    obtain ⟨mt, it, ht, _⟩ := top_fin
    obtain ⟨mn, j, hn, _⟩ := nop_fin
    unfold tenV
    rw [if_pos hU]
    cases s
    · exact Tenths_hi w x y hs hm (Or.inl (by unfold Format.order; rw [hy, ht]; rfl))
    · exact Tenths_lo w x y hs hm (by unfold Format.order; rw [hy, ht]; rfl) (Or.inl (by unfold Format.order; rw [hy, hn]; rfl))
/-- of an infinity -/
theorem degree_Tenths_inf (w : World) (x : Nat) (s : Bool) (h : double.read x = .infinity s) :
    Calls Tryd.prog 10 #[.float .f64 x] w fun e w' => e = .returned (.tuple #[.int .i64 (if s then -1099511627776 else 1099511627776), .int .i64 0]) ∧ w = w' := by
  have hs : double.order x x = some .eq := by unfold Format.order; rw [h]; cases s <;> rfl
  obtain ⟨y, hm, hy⟩ : ∃ y, double.mul x TEN = some y ∧ double.read y = .infinity s := by
    refine ⟨_, by unfold Format.mul; rw [h, ten_fin]; simp only [Datum.product]; rw [if_neg (by decide)]; rfl, ?_⟩
    have : double.write (.infinity (s ^^ false)) = double.word s double.infRung := by simp [Format.write]
    rw [this]; exact read_inf
  obtain ⟨mt, it, ht, _⟩ := top_fin
  obtain ⟨mn, j, hn, _⟩ := nop_fin
  cases s
  · exact Tenths_hi w x y hs hm (Or.inl (by unfold Format.order; rw [hy, ht]; rfl))
  · exact Tenths_lo w x y hs hm (by unfold Format.order; rw [hy, ht]; rfl) (Or.inl (by unfold Format.order; rw [hy, hn]; rfl))
end Go.Proofs.YtlnlbnpabaddkaaDoor
