/-
  Plain laws of texts: a text's number; both Parses tell the same.
-/
import Derived.Test.YtlnlbnpabaddkaaDoorTenK
import Derived.Test.YtlnlbnpabaddkaaDoorTenH
import Derived.Lib.AtoiTie
namespace Go.Proofs.YtlnlbnpabaddkaaDoor
open Go.RowKit Go.Lib

theorem decFrom_app (a b : List UInt8) : ∀ acc, decFrom acc (a ++ b) = (decFrom acc a).bind (fun m => decFrom m b) := by
  induction a with
  | nil => intro acc; rfl
  | cons c r ih =>
    intro acc
    simp only [List.cons_append, decFrom]
    cases digitVal c with
    | none => rfl
    | some d => exact ih _
theorem digit_ofNat {d : Nat} (h : d < 10) : digitVal (UInt8.ofNat (48 + d)) = some d ∧ (UInt8.ofNat (48 + d)).toNat = 48 + d := by
  have e : (UInt8.ofNat (48 + d)).toNat = 48 + d := by rw [UInt8.toNat_ofNat']; omega
  unfold digitVal
  rw [e, if_pos (by omega)]
  exact ⟨by congr 1; omega, rfl⟩
theorem decFrom_dec (n : Nat) : decFrom 0 (decDigits n) = some n := by
  induction n using Nat.strongRecOn with
  | _ n ih =>
    by_cases h : n < 10
    · rw [decDigits_one h]
      simp only [decFrom, (digit_ofNat h).1]
      simp
    · rw [decDigits.eq_1 n, dif_neg h, decFrom_app, ih (n / 10) (by omega)]
      have h10 : n % 10 < 10 := by omega
      simp only [Option.bind_some, decFrom, (digit_ofNat h10).1]
      congr 1; omega
theorem dec_ne (n : Nat) : decDigits n ≠ [] := by
  rw [decDigits.eq_1]; split <;> simp
/-- every digit of a numeral is a digit -/
theorem dec_all (n : Nat) : ∀ c ∈ decDigits n, 48 ≤ c.toNat ∧ c.toNat ≤ 57 := by
  induction n using Nat.strongRecOn with
  | _ n ih =>
    by_cases h : n < 10
    · rw [decDigits_one h]
      intro c hc
      rw [List.mem_singleton] at hc
      rw [hc, (digit_ofNat h).2]; omega
    · rw [decDigits.eq_1 n, dif_neg h]
      intro c hc
      rcases List.mem_append.1 hc with hc | hc
      · exact ih (n / 10) (by omega) c hc
      · have h10 : n % 10 < 10 := by omega
        rw [List.mem_singleton] at hc
        rw [hc, (digit_ofNat h10).2]; omega

/-- the number of a text's figures -/
def numP (L : List UInt8) : Nat := L.foldl (fun n c => if 48 ≤ c.toNat ∧ c.toNat ≤ 57 then 10 * n + (c.toNat - 48) else n) 0
def isMinus (L : List UInt8) : Bool := L.head? == some 45
def refP (L : List UInt8) : Option Int :=
  if 15 < L.length then none
  else if Txt (signI (isMinus L) (numP L)) = L ∧ L ≠ [] then some (signI (isMinus L) (numP L)) else none
theorem numP_app_dec (n : Nat) : numP (decDigits n) = n := by
  unfold numP
  have key : ∀ (L : List UInt8) (acc m : Nat), decFrom acc L = some m → L.foldl (fun n c => if 48 ≤ c.toNat ∧ c.toNat ≤ 57 then 10 * n + (c.toNat - 48) else n) acc = m := by
    intro L
    induction L with
    | nil => intro acc m h; simpa [decFrom] using h
    | cons c r ih =>
      intro acc m h
      simp only [decFrom, digitVal] at h
      by_cases hd : 48 ≤ c.toNat ∧ c.toNat ≤ 57
      · rw [if_pos hd] at h
        simp only [List.foldl_cons, if_pos hd]
        rw [Nat.mul_comm]
        exact ih _ _ h
      · rw [if_neg hd] at h; cases h
  exact key _ _ _ (decFrom_dec n)
theorem numP_snoc (L : List UInt8) (c : UInt8) : numP (L ++ [c]) = if 48 ≤ c.toNat ∧ c.toNat ≤ 57 then 10 * numP L + (c.toNat - 48) else numP L := by
  unfold numP; rw [List.foldl_append]; rfl
theorem numP_minus (L : List UInt8) : numP (45 :: L) = numP L := rfl
theorem numP_txt (n : Nat) : numP (txt n) = n := by
  have h10 : n % 10 < 10 := by omega
  unfold txt
  rw [decDigits_one h10, numP_snoc, (digit_ofNat h10).2, if_pos (by omega), numP_snoc, if_neg (by decide), numP_app_dec]
  omega
theorem txt_head (n : Nat) : isMinus (txt n) = false := by
  unfold isMinus txt
  have := dec_all (n / 10)
  cases hd : decDigits (n / 10) with
  | nil => exact absurd hd (dec_ne _)
  | cons c r =>
    have hc := this c (by rw [hd]; simp)
    simp only [List.cons_append, List.head?_cons]
    rw [beq_eq_false_iff_ne]
    intro h
    rw [Option.some.inj h] at hc
    exact absurd hc (by decide)
theorem Txt_pos {t : Int} (h0 : -1099511627776 ≤ t) (h1 : t ≤ 1099511627776) : Txt t = if t < 0 then 45 :: txt t.natAbs else txt t.natAbs := by
  unfold Txt; rw [if_pos ⟨h0, h1⟩]
theorem Txt_range {t : Int} (h : Txt t ≠ []) : -1099511627776 ≤ t ∧ t ≤ 1099511627776 := by
  unfold Txt at h
  split at h
  · assumption
  · exact absurd rfl h
theorem txt_len (n : Nat) (h : n ≤ 1099511627776) : 3 ≤ (txt n).length ∧ (txt n).length ≤ 14 := by
  have h10 : n % 10 < 10 := by omega
  unfold txt
  rw [decDigits_one h10]
  have h1 := dec_len (n / 10) (by omega)
  have h2 : 0 < (decDigits (n / 10)).length := List.length_pos_iff.2 (dec_ne _)
  simp only [List.length_append, List.length_singleton]
  omega
theorem refP_of {t : Int} {L : List UInt8} (h : Txt t = L) (hL : L ≠ []) : refP L = some t := by
  obtain ⟨h0, h1⟩ := Txt_range (by rw [h]; exact hL)
  have hT := h
  rw [Txt_pos h0 h1] at h
  have hn := txt_len t.natAbs (by omega)
  have key : signI (isMinus L) (numP L) = t := by
    by_cases hs : t < 0
    · rw [if_pos hs] at h
      have : isMinus L = true := by rw [← h]; rfl
      rw [this, ← h, numP_minus, numP_txt]
      show -((t.natAbs : Nat) : Int) = t
      omega
    · rw [if_neg hs] at h
      rw [← h, txt_head, numP_txt]
      show ((t.natAbs : Nat) : Int) = t
      omega
  unfold refP
  rw [key, if_neg (by rw [← h]; split <;> simp <;> omega), if_pos ⟨hT, hL⟩]
theorem of_refP {t : Int} {L : List UInt8} (h : refP L = some t) : Txt t = L ∧ L ≠ [] := by
  unfold refP at h
  split at h
  · cases h
  · split at h
    · rename_i h1
      obtain rfl := Option.some.inj h
      exact h1
    · cases h
theorem of_parseP {t : Int} {L : List UInt8} (h : parseP L = some t) : Txt t = L ∧ L ≠ [] := by
  unfold parseP at h
  split at h
  · cases h
  · split at h
    · cases h
    · split at h
      · split at h
        · rename_i h1 _ _ _ _ _
          obtain rfl := Option.some.inj h
          refine ⟨‹_›, ?_⟩
          rintro rfl
          exact h1 (by decide)
        · cases h
      · cases h
theorem txt_parts (n : Nat) : (txt n)[(txt n).length - 2]? = some 46 ∧ (txt n).take ((txt n).length - 2) = decDigits (n / 10) ∧ (txt n).drop ((txt n).length - 1) = [UInt8.ofNat (48 + n % 10)] := by
  have h10 : n % 10 < 10 := by omega
  unfold txt
  rw [decDigits_one h10]
  generalize decDigits (n / 10) = A
  have e : (A ++ [46] ++ [UInt8.ofNat (48 + n % 10)]).length = A.length + 2 := by simp
  rw [e]
  refine ⟨by simp, ?_, ?_⟩
  · show List.take A.length _ = _
    rw [List.append_assoc, List.take_left]
  · show List.drop (A.length + 1) _ = _
    rw [List.drop_append_of_le_length (by simp)]
    simp
theorem atoi_txt (n : Nat) (h : n ≤ 1099511627776) : atoiAll (decDigits (n / 10) ++ [UInt8.ofNat (48 + n % 10)]) = .ok (n : Int) ∧ atoiAll (45 :: (decDigits (n / 10) ++ [UInt8.ofNat (48 + n % 10)])) = .ok (-(n : Int)) := by
  have h10 : n % 10 < 10 := by omega
  have hl := dec_len (n / 10) (by omega)
  have hd : decFrom 0 (decDigits (n / 10) ++ [UInt8.ofNat (48 + n % 10)]) = some n := by
    rw [decFrom_app, decFrom_dec]
    simp only [Option.bind_some, decFrom, (digit_ofNat h10).1]
    congr 1; omega
  have hne : (decDigits (n / 10) ++ [UInt8.ofNat (48 + n % 10)]).isEmpty = false := by simp
  have hdn : decNat (decDigits (n / 10) ++ [UInt8.ofNat (48 + n % 10)]) = some n := by
    unfold decNat; rw [hne]; exact hd
  refine ⟨?_, ?_⟩
  · rw [atoiAll_short _ (by simp; omega)]
    cases hc : decDigits (n / 10) with
    | nil => exact absurd hc (dec_ne _)
    | cons c r =>
      have hcc := dec_all (n / 10) c (by rw [hc]; simp)
      have a1 : (c == 45) = false := by rw [beq_eq_false_iff_ne]; rintro rfl; exact absurd hcc (by decide)
      have a2 : (c == 43) = false := by rw [beq_eq_false_iff_ne]; rintro rfl; exact absurd hcc (by decide)
      rw [hc] at hdn
      simp only [List.cons_append] at hdn ⊢
      simp only [atoi, a1, a2, hdn]
      rfl
  · rw [atoiAll_short _ (by simp; omega)]
    simp only [atoi, hdn]
    rfl
theorem parseP_of {t : Int} {L : List UInt8} (h : Txt t = L) (hL : L ≠ []) : parseP L = some t := by
  obtain ⟨h0, h1⟩ := Txt_range (by rw [h]; exact hL)
  have hT := h
  rw [Txt_pos h0 h1] at h
  have hn := txt_len t.natAbs (by omega)
  obtain ⟨q1, q2, q3⟩ := txt_parts t.natAbs
  obtain ⟨r1, r2⟩ := atoi_txt t.natAbs (by omega)
  unfold parseP
  by_cases hs : t < 0
  · rw [if_pos hs] at h
    have hlen : L.length = (txt t.natAbs).length + 1 := by rw [← h]; rfl
    have p1 : L[L.length - 2]? = some 46 := by
      rw [hlen, ← h, show (txt t.natAbs).length + 1 - 2 = ((txt t.natAbs).length - 2) + 1 by omega, List.getElem?_cons_succ]; exact q1
    have p2 : L.take (L.length - 2) ++ L.drop (L.length - 1) = 45 :: (decDigits (t.natAbs / 10) ++ [UInt8.ofNat (48 + t.natAbs % 10)]) := by
      rw [hlen, ← h, show (txt t.natAbs).length + 1 - 2 = ((txt t.natAbs).length - 2) + 1 by omega, List.take_succ_cons, q2, show (txt t.natAbs).length + 1 - 1 = ((txt t.natAbs).length - 1) + 1 by omega, List.drop_succ_cons, q3]
      rfl
    rw [if_neg (by omega), if_neg (by rw [p1]; simp), p2, r2]
    simp only [show -((t.natAbs : Nat) : Int) = t by omega]
    rw [if_pos hT]
  · rw [if_neg hs] at h
    rw [← h] at hT ⊢
    rw [if_neg (by omega), if_neg (by rw [q1]; simp), q2, q3, r1]
    simp only [show ((t.natAbs : Nat) : Int) = t by omega]
    rw [if_pos hT]
/-- both Parses tell the same -/
theorem parse_same (L : List UInt8) : parseP L = refP L := by
  cases h : parseP L with
  | some t => obtain ⟨a, b⟩ := of_parseP h; rw [refP_of a b]
  | none =>
    cases h2 : refP L with
    | none => rfl
    | some t => obtain ⟨a, b⟩ := of_refP h2; rw [parseP_of a b] at h; cases h
end Go.Proofs.YtlnlbnpabaddkaaDoor
