/-
  Contracts of the reference's texts: figures, Text, Parse.
-/
import Derived.Test.YtlnlbnpabaddkaaDoorTenE
import Derived.Laws.IdiomStrings
namespace Go.Proofs.YtlnlbnpabaddkaaDoor
open Go.RowKit

theorem conv_digit (w : World) (n : Nat) : (convert 51 9 (.slice (some ⟨w.heap.size, 0, none⟩) 1 1)).run Tryd.prog (w.alloc (.cells #[.int .u8 (48 + (n : Int) % 10)] 5)) = .ok (.string ⟨#[UInt8.ofNat (48 + n % 10)]⟩) (w.alloc (.cells #[.int .u8 (48 + (n : Int) % 10)] 5)) := by
  have := run_convert_bytes_back (P := Tryd.prog) (w.alloc (.cells #[.int .u8 (48 + (n : Int) % 10)] 5)) 51 9 5 ⟨w.heap.size, 0, none⟩ 1 [UInt8.ofNat (48 + n % 10)] Tryd.underlying51 Tryd.underlying5 Tryd.underlying9 (by
    intro j hj
    have hj0 : j = 0 := by simpa using hj
    subst hj0
    have e : (48 + n % 10) % 2 ^ 8 = 48 + n % 10 := by omega
    show (w.alloc _).cell? ⟨w.heap.size, 0, none⟩ = _
    rw [World.cell?_alloc_new]
    show some _ = some (Value.int .u8 (((UInt8.ofNat (48 + n % 10)).toNat : Nat) : Int))
    rw [UInt8.toNat_ofNat', e]
    congr 2)
  exact this
theorem dec_big {n : Nat} (h : ¬ n < 10) : (⟨(Lib.decDigits (n / 10)).toArray⟩ : ByteArray) ++ ⟨#[UInt8.ofNat (48 + n % 10)]⟩ = ⟨(Lib.decDigits n).toArray⟩ := by
  apply ByteArray.ext
  rw [Lib.decDigits.eq_1 n, dif_neg h]
  simp
theorem ref01_figures (k : Nat) : ∀ (w : World) (n : Nat), n < 10 ^ (k + 1) → k ≤ 14 → Calls Tryd.prog 25 #[.int .i64 n] w fun e w' => e = .returned (.string ⟨(Lib.decDigits n).toArray⟩) ∧ Below w.heap.size w w' := by
  induction k with
  | zero =>
    intro w n hn _
    have hn' : n < 10 := by simpa using hn
    have hcv := conv_digit w n
    obtain ⟨D, hD⟩ : ∃ D : ByteArray, D = ⟨#[UInt8.ofNat (48 + n % 10)]⟩ := ⟨_, rfl⟩
    rw [← hD] at hcv
    have HD : Hid ((⟨(Lib.decDigits n).toArray⟩ : ByteArray) = D) := by
      unfold Hid; rw [hD, Lib.decDigits_one hn', Nat.mod_eq_of_lt hn']
    clear hn hD
    go_enter Tryd.func25, Tryd.ntmps25
    go_wp2_with fail
    go_ret
    exact ⟨by rw [HD.out]; rfl, (Below.refl _ _).alloc (Nat.le_refl _) _⟩
  | succ k ih =>
    intro w n hn hk
    have hcv := conv_digit w n
    obtain ⟨D, hD⟩ : ∃ D : ByteArray, D = ⟨#[UInt8.ofNat (48 + n % 10)]⟩ := ⟨_, rfl⟩
    rw [← hD] at hcv
    have hDs : D.size = 1 := by rw [hD]; rfl
    have h15 : n < 10 ^ 16 := Nat.lt_of_lt_of_le hn (Nat.pow_le_pow_right (by omega) (by omega))
    by_cases h : n < 10
    · have HD : Hid ((⟨(Lib.decDigits n).toArray⟩ : ByteArray) = D) := by
        unfold Hid; rw [hD, Lib.decDigits_one h, Nat.mod_eq_of_lt h]
      clear hn h15 hD hDs
      go_enter Tryd.func25, Tryd.ntmps25
      go_wp2_with fail
      go_ret
      exact ⟨by rw [HD.out]; rfl, (Below.refl _ _).alloc (Nat.le_refl _) _⟩
    · have HD := Lib.hid (dec_big h)
      have hd := dec_len_pow k (n / 10) (by rw [Nat.pow_succ] at hn; omega)
      have HI := Lib.hid (fun w => ih w (n / 10) (by rw [Nat.pow_succ] at hn; omega) (by omega))
      have HQ : Hid ((n : Int) / 10 = ((n / 10 : Nat) : Int)) := by unfold Hid; omega
      obtain ⟨A, hA⟩ : ∃ A : ByteArray, A = ⟨(Lib.decDigits (n / 10)).toArray⟩ := ⟨_, rfl⟩
      have hAs : A.size ≤ 15 := by rw [hA, ba_len]; omega
      rw [← hA, ← hD] at HD
      have hDl : D.size ≤ 1 := by omega
      have HA := Lib.hid hA
      have h' : (10 : Int) ≤ n := by omega
      have h16 : (n : Int) < 10000000000000000 := by omega
      clear hn h15 ih hA h hd hD hDs
      go_enter Tryd.func25, Tryd.ntmps25
      go_wp2_with fail
      rw [HQ.out]
      refine (HI.out _).mono ?_
      rw [← HA.out]
      rintro e w1 ⟨rfl, k1⟩
      go_wp2_with fail
      go_ret
      refine ⟨by rw [← HD.out]; rfl, ?_⟩
      exact ((Below.refl _ _).alloc (Nat.le_refl _) _).trans (k1.mono (by simp))
theorem ref01_Right (w : World) (t : Int) : Calls Tryd.prog 24 #[.int .i64 t] w fun e w' => e = .returned (.bool (decide (-1099511627776 ≤ t) && decide (t ≤ 1099511627776))) ∧ w = w' := by
  go_enter Tryd.func24, Tryd.ntmps24
  go_wp2
  · go_ret
    refine ⟨?_, rfl⟩
    rw [decide_eq_true (by omega : -1099511627776 ≤ t), Bool.true_and]; rfl
  · go_ret
    refine ⟨?_, rfl⟩
    rw [decide_eq_false (by omega : ¬ -1099511627776 ≤ t), Bool.false_and]; rfl
theorem txtp_ba (n : Nat) : ((⟨(Lib.decDigits (n / 10)).toArray⟩ : ByteArray) ++ ⟨#[46]⟩ ++ ⟨(Lib.decDigits (n % 10)).toArray⟩) = ⟨(txt n).toArray⟩ := by
  apply ByteArray.ext
  simp [txt]
set_option maxRecDepth 100000 in
set_option maxHeartbeats 2000000 in
theorem ref01_Text_pos (w : World) (n : Nat) (h : n ≤ 1099511627776) : Calls Tryd.prog 14 #[.int .i64 n] w fun e w' => e = .returned (.string ⟨(txt n).toArray⟩) ∧ Below w.heap.size w w' := by
  have hb : (decide (-1099511627776 ≤ (n : Int)) && decide ((n : Int) ≤ 1099511627776)) = true := by
    rw [Bool.and_eq_true, decide_eq_true_iff, decide_eq_true_iff]; omega
  have hn : decide ((n : Int) < 0) = false := by simp
  have HQ : Hid ((n : Int) / 10 = ((n / 10 : Nat) : Int)) := by unfold Hid; omega
  have HR : Hid ((n : Int) % 10 = ((n % 10 : Nat) : Int)) := by unfold Hid; omega
  have HT := Lib.hid (txtp_ba n)
  obtain ⟨A, hA⟩ : ∃ A : ByteArray, A = ⟨(Lib.decDigits (n / 10)).toArray⟩ := ⟨_, rfl⟩
  obtain ⟨B, hB⟩ : ∃ B : ByteArray, B = ⟨(Lib.decDigits (n % 10)).toArray⟩ := ⟨_, rfl⟩
  have hAs : A.size ≤ 12 := by rw [hA, ba_len]; exact dec_len _ (by omega)
  have hBs : B.size ≤ 12 := by rw [hB, ba_len]; exact dec_len _ (by omega)
  rw [← hA, ← hB] at HT
  have HA := Lib.hid hA
  have HB := Lib.hid hB
  clear hA hB
  go_enter Tryd.func14, Tryd.ntmps14
  go_wp2_with (go_at_call 24; refine (ref01_Right _ n).mono ?_; rw [hb]; rintro e w1 ⟨rfl, rfl⟩)
  rw [HQ.out]
  refine (ref01_figures 12 _ (n / 10) (by omega) (by omega)).mono ?_
  rw [← HA.out]
  rintro e w1 ⟨rfl, hk⟩
  go_wp2_with fail
  rw [HR.out]
  refine (ref01_figures 12 _ (n % 10) (by omega) (by omega)).mono ?_
  rw [← HB.out]
  rintro e w2 ⟨rfl, hk2⟩
  go_wp2_with fail
  go_ret
  refine ⟨?_, hk.trans (hk2.mono hk.size)⟩
  rw [HT.out]
  rfl
set_option maxRecDepth 100000 in
set_option maxHeartbeats 2000000 in
theorem ref01_Text_neg (w : World) (n : Nat) (h0 : 0 < n) (h : n ≤ 1099511627776) : Calls Tryd.prog 14 #[.int .i64 (-(n : Int))] w fun e w' => e = .returned (.string ⟨(45 :: txt n).toArray⟩) ∧ Below w.heap.size w w' := by
  have hb : (decide (-1099511627776 ≤ -(n : Int)) && decide (-(n : Int) ≤ 1099511627776)) = true := by
    rw [Bool.and_eq_true, decide_eq_true_iff, decide_eq_true_iff]; omega
  have hn : decide (-(n : Int) < 0) = true := by simp; omega
  have HQ : Hid ((n : Int) / 10 = ((n / 10 : Nat) : Int)) := by unfold Hid; omega
  have HR : Hid ((n : Int) % 10 = ((n % 10 : Nat) : Int)) := by unfold Hid; omega
  have HT := Lib.hid (txtm_ba n)
  obtain ⟨A, hA⟩ : ∃ A : ByteArray, A = ⟨(Lib.decDigits (n / 10)).toArray⟩ := ⟨_, rfl⟩
  obtain ⟨B, hB⟩ : ∃ B : ByteArray, B = ⟨(Lib.decDigits (n % 10)).toArray⟩ := ⟨_, rfl⟩
  have hAs : A.size ≤ 12 := by rw [hA, ba_len]; exact dec_len _ (by omega)
  have hBs : B.size ≤ 12 := by rw [hB, ba_len]; exact dec_len _ (by omega)
  rw [← hA, ← hB] at HT
  have HA := Lib.hid hA
  have HB := Lib.hid hB
  clear hA hB
  go_enter Tryd.func14, Tryd.ntmps14
  go_wp2_with (go_at_call 24; refine (ref01_Right _ (-(n : Int))).mono ?_; rw [hb]; rintro e w1 ⟨rfl, rfl⟩)
  rw [HQ.out]
  refine (ref01_figures 12 _ (n / 10) (by omega) (by omega)).mono ?_
  rw [← HA.out]
  rintro e w1 ⟨rfl, hk⟩
  go_wp2_with fail
  rw [HR.out]
  refine (ref01_figures 12 _ (n % 10) (by omega) (by omega)).mono ?_
  rw [← HB.out]
  rintro e w2 ⟨rfl, hk2⟩
  go_wp2_with fail
  go_ret
  refine ⟨?_, hk.trans (hk2.mono hk.size)⟩
  rw [HT.out]
  rfl


theorem ref01_Text_none (w : World) (t : Int) (h : ¬ (-1099511627776 ≤ t ∧ t ≤ 1099511627776)) : Calls Tryd.prog 14 #[.int .i64 t] w fun e w' => e = .returned (.string ⟨#[]⟩) ∧ w = w' := by
  have hb : (decide (-1099511627776 ≤ t) && decide (t ≤ 1099511627776)) = false := by
    rw [← Bool.not_eq_true, Bool.and_eq_true, decide_eq_true_iff, decide_eq_true_iff]; exact h
  clear h
  go_enter Tryd.func14, Tryd.ntmps14
  go_wp2_with (go_at_call 24; refine (ref01_Right _ t).mono ?_; rw [hb]; rintro e w1 ⟨rfl, rfl⟩)
  go_ret
  exact ⟨rfl, rfl⟩
theorem ref01_Text (w : World) (t : Int) : Calls Tryd.prog 14 #[.int .i64 t] w fun e w' => e = .returned (.string ⟨(Txt t).toArray⟩) ∧ Below w.heap.size w w' := by
  unfold Txt
  by_cases h : -1099511627776 ≤ t ∧ t ≤ 1099511627776
  · rw [if_pos h]
    by_cases h1 : t < 0
    · rw [if_pos h1]
      have := ref01_Text_neg w t.natAbs (by omega) (by omega)
      rwa [show -((t.natAbs : Nat) : Int) = t by omega] at this
    · rw [if_neg h1]
      have := ref01_Text_pos w t.natAbs (by omega)
      rwa [show ((t.natAbs : Nat) : Int) = t by omega] at this
  · rw [if_neg h]
    refine (ref01_Text_none w t h).mono ?_
    rintro e w' ⟨rfl, rfl⟩
    exact ⟨rfl, Below.refl _ _⟩
end Go.Proofs.YtlnlbnpabaddkaaDoor
