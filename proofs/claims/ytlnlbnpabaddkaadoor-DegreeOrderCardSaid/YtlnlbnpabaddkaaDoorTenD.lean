/-
  Contracts of package degree: right, Text.
-/
import Derived.Test.YtlnlbnpabaddkaaDoorTenC
import Derived.Test.YtlnlbnpabaddkaaDoorShelfA
import Derived.Lib.SmallJoins
namespace Go.Proofs.YtlnlbnpabaddkaaDoor
open Go.RowKit

def Pow (w : World) : Prop := Lib.TabIs Tryd.prog w "internal/strconv.uint64pow10" .u64 Lib.pow10Tab
theorem degree_right (w : World) (t : Int) : Calls Tryd.prog 22 #[.int .i64 t] w fun e w' => e = .returned (.bool (decide (-1099511627776 ≤ t) && decide (t ≤ 1099511627776))) ∧ w = w' := by
  go_enter Tryd.func22, Tryd.ntmps22
  go_wp2
  · go_ret
    refine ⟨?_, rfl⟩
    rw [decide_eq_true (by omega : -1099511627776 ≤ t), Bool.true_and]; rfl
  · go_ret
    refine ⟨?_, rfl⟩
    rw [decide_eq_false (by omega : ¬ -1099511627776 ≤ t), Bool.false_and]; rfl

def txt (n : Nat) : List UInt8 := Lib.decDigits (n / 10) ++ [46] ++ Lib.decDigits (n % 10)
theorem degree_Text_none (w : World) (t : Int) (h : ¬ (-1099511627776 ≤ t ∧ t ≤ 1099511627776)) : Calls Tryd.prog 13 #[.int .i64 t] w fun e w' => e = .returned (.string ⟨#[]⟩) ∧ w = w' := by
  have hb : (decide (-1099511627776 ≤ t) && decide (t ≤ 1099511627776)) = false := by
    rw [← Bool.not_eq_true, Bool.and_eq_true, decide_eq_true_iff, decide_eq_true_iff]; exact h
  clear h
  go_enter Tryd.func13, Tryd.ntmps13
  go_wp2_with (go_at_call 22; refine (degree_right _ t).mono ?_; rw [hb]; rintro e w1 ⟨rfl, rfl⟩)
  go_ret
  exact ⟨rfl, rfl⟩

theorem itoa_big (w : World) (n : Nat) (h : n ≤ 109951162777) (hp : Pow w) : Calls Tryd.prog 23 #[.int .i64 n] w fun e w' => e = .returned (.string ⟨(Lib.decDigits n).toArray⟩) ∧ Below w.heap.size w w' := by
  refine (Any.strconv_Itoa Tryd.itoaM n (by omega) (by omega) w hp).mono fun e w' ⟨h1, k, os, h2⟩ => ⟨?_, ?_⟩
  · rw [h1]
    unfold Lib.itoa
    rw [if_neg (by omega)]
    rfl
  · subst h2
    refine ⟨rfl, rfl, rfl, ?_, fun j hj => ?_⟩
    · simp [Sort.grow, World.drewN]
    · show (w.heap ++ os)[j]? = _
      rw [Array.getElem?_append_left hj]
theorem itoa_digit (w : World) (n : Nat) (h : n < 100) : Calls Tryd.prog 23 #[.int .i64 n] w fun e w' => e = .returned (.string ⟨(Lib.decDigits n).toArray⟩) ∧ w' = w :=
  Any.strconv_Itoa_small Tryd.itoaL n h w

theorem ba_len (l : List UInt8) : (⟨l.toArray⟩ : ByteArray).size = l.length := by
  show l.toArray.size = _
  simp
theorem dec_len_pow (k : Nat) : ∀ n : Nat, n < 10 ^ (k + 1) → (Lib.decDigits n).length ≤ k + 1 := by
  induction k with
  | zero => intro n h; rw [Lib.decDigits_one (by simpa using h)]; simp
  | succ k ih =>
    intro n h
    by_cases h1 : n < 10
    · rw [Lib.decDigits_one h1]; simp
    · rw [Lib.decDigits, dif_neg h1, List.length_append]
      have := ih (n / 10) (by rw [Nat.pow_succ] at h; omega)
      simp; omega
theorem dec_len (n : Nat) (h : n ≤ 109951162777) : (Lib.decDigits n).length ≤ 12 := dec_len_pow 11 n (by omega)
theorem txt_ba (n : Nat) : ((⟨#[]⟩ : ByteArray) ++ ⟨(Lib.decDigits (n / 10)).toArray⟩ ++ ⟨#[46]⟩ ++ ⟨(Lib.decDigits (n % 10)).toArray⟩) = ⟨(txt n).toArray⟩ := by
  apply ByteArray.ext
  simp [txt]
set_option maxRecDepth 100000 in
set_option maxHeartbeats 2000000 in
theorem degree_Text_pos (w : World) (n : Nat) (h : n ≤ 1099511627776) (hp : Pow w) : Calls Tryd.prog 13 #[.int .i64 n] w fun e w' => e = .returned (.string ⟨(txt n).toArray⟩) ∧ Below w.heap.size w w' := by
  have hb : (decide (-1099511627776 ≤ (n : Int)) && decide ((n : Int) ≤ 1099511627776)) = true := by
    rw [Bool.and_eq_true, decide_eq_true_iff, decide_eq_true_iff]; omega
  have hn : decide ((n : Int) < 0) = false := by simp
  have HQ : Hid ((n : Int) / 10 = ((n / 10 : Nat) : Int)) := by unfold Hid; omega
  have HR : Hid ((n : Int) % 10 = ((n % 10 : Nat) : Int)) := by unfold Hid; omega
  have HP := Lib.hid hp
  clear hp
  have HT := Lib.hid (txt_ba n)
  obtain ⟨A, hA⟩ : ∃ A : ByteArray, A = ⟨(Lib.decDigits (n / 10)).toArray⟩ := ⟨_, rfl⟩
  obtain ⟨B, hB⟩ : ∃ B : ByteArray, B = ⟨(Lib.decDigits (n % 10)).toArray⟩ := ⟨_, rfl⟩
  have hAs : A.size ≤ 12 := by rw [hA, ba_len]; exact dec_len _ (by omega)
  have hBs : B.size ≤ 12 := by rw [hB, ba_len]; exact dec_len _ (by omega)
  rw [← hA, ← hB] at HT
  have HA := Lib.hid hA
  have HB := Lib.hid hB
  clear hA hB
  go_enter Tryd.func13, Tryd.ntmps13
  go_wp2_with (go_at_call 22; refine (degree_right _ n).mono ?_; rw [hb]; rintro e w1 ⟨rfl, rfl⟩)
  rw [HQ.out]
  refine (itoa_big _ (n / 10) (by omega) HP.out).mono ?_
  rw [← HA.out]
  rintro e w1 ⟨rfl, hk⟩
  go_wp2_with fail
  rw [HR.out]
  refine (itoa_digit _ (n % 10) (by omega)).mono ?_
  rw [← HB.out]
  rintro e w2 ⟨rfl, rfl⟩
  go_wp2_with fail
  go_ret
  refine ⟨?_, hk⟩
  rw [HT.out]
  rfl
theorem txtm_ba (n : Nat) : ((⟨#[45]⟩ : ByteArray) ++ ⟨(Lib.decDigits (n / 10)).toArray⟩ ++ ⟨#[46]⟩ ++ ⟨(Lib.decDigits (n % 10)).toArray⟩) = ⟨(45 :: txt n).toArray⟩ := by
  apply ByteArray.ext
  simp [txt]
set_option maxRecDepth 100000 in
set_option maxHeartbeats 2000000 in
theorem degree_Text_neg (w : World) (n : Nat) (h0 : 0 < n) (h : n ≤ 1099511627776) (hp : Pow w) : Calls Tryd.prog 13 #[.int .i64 (-(n : Int))] w fun e w' => e = .returned (.string ⟨(45 :: txt n).toArray⟩) ∧ Below w.heap.size w w' := by
  have hb : (decide (-1099511627776 ≤ -(n : Int)) && decide (-(n : Int) ≤ 1099511627776)) = true := by
    rw [Bool.and_eq_true, decide_eq_true_iff, decide_eq_true_iff]; omega
  have hn : decide (-(n : Int) < 0) = true := by simp; omega
  have HQ : Hid ((n : Int) / 10 = ((n / 10 : Nat) : Int)) := by unfold Hid; omega
  have HR : Hid ((n : Int) % 10 = ((n % 10 : Nat) : Int)) := by unfold Hid; omega
  have HP := Lib.hid hp
  clear hp
  have HT := Lib.hid (txtm_ba n)
  obtain ⟨A, hA⟩ : ∃ A : ByteArray, A = ⟨(Lib.decDigits (n / 10)).toArray⟩ := ⟨_, rfl⟩
  obtain ⟨B, hB⟩ : ∃ B : ByteArray, B = ⟨(Lib.decDigits (n % 10)).toArray⟩ := ⟨_, rfl⟩
  have hAs : A.size ≤ 12 := by rw [hA, ba_len]; exact dec_len _ (by omega)
  have hBs : B.size ≤ 12 := by rw [hB, ba_len]; exact dec_len _ (by omega)
  rw [← hA, ← hB] at HT
  have HA := Lib.hid hA
  have HB := Lib.hid hB
  clear hA hB
  go_enter Tryd.func13, Tryd.ntmps13
  go_wp2_with (go_at_call 22; refine (degree_right _ (-(n : Int))).mono ?_; rw [hb]; rintro e w1 ⟨rfl, rfl⟩)
  rw [HQ.out]
  refine (itoa_big _ (n / 10) (by omega) HP.out).mono ?_
  rw [← HA.out]
  rintro e w1 ⟨rfl, hk⟩
  go_wp2_with fail
  rw [HR.out]
  refine (itoa_digit _ (n % 10) (by omega)).mono ?_
  rw [← HB.out]
  rintro e w2 ⟨rfl, rfl⟩
  go_wp2_with fail
  go_ret
  refine ⟨?_, hk⟩
  rw [HT.out]
  rfl

/-- the text of any number, nothing of what is no tenth -/
def Txt (t : Int) : List UInt8 := if -1099511627776 ≤ t ∧ t ≤ 1099511627776 then (if t < 0 then 45 :: txt t.natAbs else txt t.natAbs) else []
theorem degree_Text (w : World) (t : Int) (hp : Pow w) : Calls Tryd.prog 13 #[.int .i64 t] w fun e w' => e = .returned (.string ⟨(Txt t).toArray⟩) ∧ Below w.heap.size w w' := by
  unfold Txt
  by_cases h : -1099511627776 ≤ t ∧ t ≤ 1099511627776
  · rw [if_pos h]
    by_cases h1 : t < 0
    · rw [if_pos h1]
      have := degree_Text_neg w t.natAbs (by omega) (by omega) hp
      rwa [show -((t.natAbs : Nat) : Int) = t by omega] at this
    · rw [if_neg h1]
      have := degree_Text_pos w t.natAbs (by omega) hp
      rwa [show ((t.natAbs : Nat) : Int) = t by omega] at this
  · rw [if_neg h]
    refine (degree_Text_none w t h).mono ?_
    rintro e w' ⟨rfl, rfl⟩
    exact ⟨rfl, Below.refl _ _⟩
end Go.Proofs.YtlnlbnpabaddkaaDoor
