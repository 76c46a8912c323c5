/-
  The reference's Parse: its walk.
-/
import Derived.Test.YtlnlbnpabaddkaaDoorTenL
namespace Go.Proofs.YtlnlbnpabaddkaaDoor
open Go.RowKit

theorem numP_lt (L : List UInt8) : ∀ acc : Nat, L.foldl (fun n c => if 48 ≤ c.toNat ∧ c.toNat ≤ 57 then 10 * n + (c.toNat - 48) else n) acc < 10 ^ L.length * (acc + 1) := by
  induction L with
  | nil => intro acc; simp
  | cons c r ih =>
    intro acc
    simp only [List.foldl_cons, List.length_cons]
    refine Nat.lt_of_lt_of_le (ih _) ?_
    rw [Nat.pow_succ, Nat.mul_assoc]
    refine Nat.mul_le_mul_left _ ?_
    split <;> omega
theorem numP_bound (L : List UInt8) (h : L.length ≤ 15) : numP L < 10 ^ 15 := by
  have h1 := numP_lt L 0
  rw [Nat.zero_add, Nat.mul_one] at h1
  exact Nat.lt_of_lt_of_le h1 (Nat.pow_le_pow_right (by omega) h)
theorem take_snoc (s : ByteArray) (k : Nat) (h : k < s.size) : s.data.toList.take (k + 1) = s.data.toList.take k ++ [s[k]] := by
  rw [List.take_succ_eq_append_getElem (by simpa using h)]; rfl
theorem minus_take (s : ByteArray) (k : Nat) (h0 : 0 < k) : isMinus (s.data.toList.take k) = isMinus s.data.toList := by
  unfold isMinus
  cases s.data.toList with
  | nil => simp
  | cons c r => cases k with
    | zero => omega
    | succ k => rfl
theorem minus_first (s : ByteArray) (h : 0 < s.size) : isMinus s.data.toList = (s[0] == 45) := by
  unfold isMinus
  have : s.data.toList.head? = some s[0] := by
    rw [List.head?_eq_getElem?]; exact ba_get s 0 h
  rw [this]; rfl
theorem ref01_Parse_long (w : World) (s : ByteArray) (h : 15 < s.size) (h2 : s.size ≤ maxLen) : Calls Tryd.prog 12 #[.string s] w fun e w' => e = .returned (.tuple #[.int .i64 0, .int .i64 2]) ∧ w = w' := by
  unfold maxLen at h2
  have h' : (15 : Int) < s.size := by omega
  go_enter Tryd.func12, Tryd.ntmps12
  go_wp2
  go_ret2
  exact ⟨rfl, rfl⟩
theorem index_at (s : ByteArray) (k : Nat) (h : k < s.size) (c : Int) (hc : c = (s[k].toNat : Int)) : ∀ w, (Instr.index 9 (.string s) (.int .i64 k)).run Tryd.prog w = .ok (.int .u8 c) w := by
  intro w
  rw [run_index_string w 9 s .i64 k Tryd.underlying9, dif_pos (by omega), hc]
  rfl
def St (s : ByteArray) (k : Nat) (n : Nat) (m : Bool) : Prop := n = numP (s.data.toList.take k) ∧ m = isMinus (s.data.toList.take k)
theorem St.minus {s : ByteArray} {n : Nat} {m : Bool} (h : St s 0 n m) (h0 : 0 < s.size) (hc : s[0] = 45) : St s 1 n true := by
  have e := take_snoc s 0 h0
  obtain ⟨rfl, rfl⟩ := h
  refine ⟨?_, ?_⟩
  · rw [e, numP_snoc, if_neg (by rw [hc]; decide)]
  · rw [e, hc]; rfl
theorem St.digit {s : ByteArray} {k n : Nat} {m : Bool} (h : St s k n m) (hk : k < s.size) (hc : 48 ≤ s[k].toNat ∧ s[k].toNat ≤ 57) : St s (k + 1) (10 * n + (s[k].toNat - 48)) m := by
  have e := take_snoc s k hk
  obtain ⟨rfl, rfl⟩ := h
  refine ⟨?_, ?_⟩
  · rw [e, numP_snoc, if_pos hc]
  · cases k with
    | zero =>
      rw [minus_take s (0 + 1) (by omega), minus_first s hk]
      symm
      rw [List.take_zero]
      show (s[0] == 45) = false
      rw [beq_eq_false_iff_ne]; intro h; rw [h] at hc; exact absurd hc (by decide)
    | succ k => rw [minus_take s _ (by omega), minus_take s _ (by omega)]
theorem St.other {s : ByteArray} {k n : Nat} {m : Bool} (h : St s k n m) (hk : k < s.size) (hc : ¬ (48 ≤ s[k].toNat ∧ s[k].toNat ≤ 57)) (h0 : k = 0 → s[k] ≠ 45) : St s (k + 1) n m := by
  have e := take_snoc s k hk
  obtain ⟨rfl, rfl⟩ := h
  refine ⟨?_, ?_⟩
  · rw [e, numP_snoc, if_neg hc]
  · cases k with
    | zero =>
      rw [minus_take s (0 + 1) (by omega), minus_first s hk]
      symm
      rw [List.take_zero]
      show (s[0] == 45) = false
      rw [beq_eq_false_iff_ne]; exact h0 rfl
    | succ k => rw [minus_take s _ (by omega), minus_take s _ (by omega)]
theorem St.bound {s : ByteArray} {k n : Nat} {m : Bool} (h : St s k n m) (hs : s.size ≤ 15) : n < 10 ^ 15 := by
  rw [h.1]
  have : (s.data.toList.take k).length ≤ 15 := by
    have : s.data.toList.length = s.size := by rw [Array.length_toList]; rfl
    rw [List.length_take]; omega
  exact numP_bound _ this

def PRel (s : ByteArray) (n m i : Value) : Prop := ∃ (k x : Nat) (b : Bool), k ≤ s.size ∧ i = .int .i64 k ∧ n = .int .i64 x ∧ m = .bool b ∧ St s k x b
set_option maxRecDepth 100000 in
set_option maxHeartbeats 2000000 in
theorem ref01_Parse_loop (w : World) (s : ByteArray) (h : s.size ≤ 15) (t : Int) (ht : t = signI (isMinus s.data.toList) (numP s.data.toList)) (X : ByteArray) (hX : X = ⟨(Txt t).toArray⟩) (R : Int × Int) (hR : (X.toList == s.toList) = true ∧ s.size ≠ 0 ∧ R = (t, 0) ∨ ((X.toList == s.toList) = false ∨ s.size = 0) ∧ R = (0, 2)) :
    Calls Tryd.prog 12 #[.string s] w fun e w' => e = .returned (.tuple #[.int .i64 R.1, .int .i64 R.2]) ∧ Below w.heap.size w w' := by
  have HT := Lib.hid ht
  have HX := Lib.hid hX
  have HR := Lib.hid hR
  clear ht hX hR
  go_enter Tryd.func12, Tryd.ntmps12
  go_wp2
  go_loop [4, 5, 6] (fun n m i => PRel s n m i) (fun _ _ i => s.size - (intOf i).toNat)
  case atStart => exact ⟨0, 0, false, by omega, rfl, rfl, rfl, rfl, rfl⟩
  case round =>
    obtain ⟨k, x, b, hk, rfl, rfl, rfl, hst⟩ := hrel
    have hx := hst.bound h
    have hx' : (x : Int) < 1000000000000000 := by omega
    by_cases hlt : k < s.size
    · have HS := Lib.hid hst
      clear hst
      by_cases hm : k = 0 ∧ s[k] = 45
      · obtain ⟨hm1, hm2⟩ := hm
        subst hm1
        have HS1 := Lib.hid (HS.out.minus hlt hm2)
        have ht1 : ((s[0].toNat : Int) == 45) = true := by rw [hm2]; rfl
        have HM := Lib.hid hm2
        clear hm2
        go_wp2_with fail
        go_round
        case rel => exact ⟨1, _, true, by omega, rfl, rfl, rfl, HS1.out⟩
        case measure => simp [intOf]; omega
      · obtain ⟨c, hc⟩ : ∃ c : Int, c = (s[k].toNat : Int) := ⟨_, rfl⟩
        have hix := index_at s k hlt c hc
        have hb0 : 0 ≤ c := by omega
        have hb1 : c ≤ 255 := by have := UInt8.toNat_lt s[k]; omega
        have HC := Lib.hid hc
        have ht1 : (((k : Int) == 0) && (c == 45)) = false := by
          rw [Bool.and_eq_false_iff, beq_eq_false_iff_ne, beq_eq_false_iff_ne]
          by_cases hk0 : k = 0
          · right; intro h; apply hm; refine ⟨hk0, ?_⟩; apply UInt8.toNat_inj.1; show _ = 45; omega
          · left; omega
        have HN : Hid (k = 0 → s[k] ≠ 45) := fun h0 h45 => hm ⟨h0, h45⟩
        clear hm hc
        by_cases hk0 : k = 0
        all_goals
          first
            | (have ht0 : ((k : Int) == 0) = true := by rw [hk0]; rfl
               have ht2 : (c == 45) = false := by rw [ht0, Bool.true_and] at ht1; exact ht1)
            | (have ht0 : ((k : Int) == 0) = false := by rw [beq_eq_false_iff_ne]; omega
               have ht2 : True := trivial)
          clear ht1 hk0
          by_cases hd : 48 ≤ c ∧ c ≤ 57
          · have HS1 := Lib.hid (HS.out.digit hlt (by have := HC.out; omega))
            obtain ⟨hx2, hx3⟩ := hd
            go_wp2_with fail
            go_round
            case rel => exact ⟨k + 1, _, b, by omega, by go_num, by rw [Int.natCast_add, Int.natCast_mul, Int.natCast_sub (by have := HC.out; omega), ← HC.out]; rfl, rfl, HS1.out⟩
            case measure => simp [intOf]; omega
          · have HS1 := Lib.hid (HS.out.other hlt (by have := HC.out; omega) HN.out)
            have hd' : decide ((48 : Int) ≤ c) = false ∨ (decide (c ≤ (57 : Int)) = false ∧ decide ((48 : Int) ≤ c) = true) := by
              by_cases h1 : 48 ≤ c
              · right; exact ⟨decide_eq_false (by omega), decide_eq_true h1⟩
              · left; exact decide_eq_false h1
            clear hd
            rcases hd' with hx2 | ⟨hx2, hx3⟩
            · go_wp2_with fail
              go_round
              case rel => exact ⟨k + 1, _, b, by omega, by go_num, rfl, rfl, HS1.out⟩
              case measure => simp [intOf]; omega
            · go_wp2_with fail
              go_round
              case rel => exact ⟨k + 1, _, b, by omega, by go_num, rfl, rfl, HS1.out⟩
              case measure => simp [intOf]; omega
    · have hk2 : k = s.size := by omega
      have HS := Lib.hid hst
      clear hst
      subst hk2
      have hfull : s.data.toList.take s.size = s.data.toList := by
        rw [List.take_of_length_le]; rw [Array.length_toList]; exact Nat.le_refl _
      obtain ⟨e1, e2⟩ := HS.out
      rw [hfull] at e1 e2
      cases b
      · have HE : Hid (t = (x : Int)) := by unfold Hid; rw [HT.out, ← e1, ← e2]; rfl
        have HX2 : Hid (X = ⟨(Txt (x : Int)).toArray⟩) := by unfold Hid; rw [← HE.out]; exact HX.out
        clear e1 e2 hfull
        by_cases hemp : s.size = 0
        · have h2' : s.toList.isEmpty = true := by
            rw [ByteArray.toList_eq]
            cases hc : s.data.toList with
            | nil => rfl
            | cons c r => exfalso; have : s.data.size = 0 := hemp; rw [← Array.length_toList, hc] at this; simp at this
          have H3 : Hid (R = (0, 2)) := by
            rcases HR.out with ⟨_, h2, _⟩ | ⟨_, h3⟩
            · exact absurd hemp h2
            · exact h3
          have HS0 := Lib.hid hemp
          clear hemp
          go_wp2_with fail
          refine (ref01_Text _ _).mono ?_
          rw [← HX2.out]
          rintro e w1 ⟨rfl, k1⟩
          by_cases hq : (X.toList == s.toList) = true
          · go_wp2_with fail
            go_ret2
            exact ⟨by rw [H3.out]; rfl, k1⟩
          · have hq' : (X.toList == s.toList) = false := by simpa using hq
            clear hq
            go_wp2_with fail
            go_ret2
            exact ⟨by rw [H3.out]; rfl, k1⟩
        · have h2' : s.toList.isEmpty = false := by
            rw [ByteArray.toList_eq]
            cases hc : s.data.toList with
            | nil => exfalso; apply hemp; show s.data.size = 0; rw [← Array.length_toList, hc]; rfl
            | cons => rfl
          rcases HR.out with ⟨h1, _, h3⟩ | ⟨h1, h3⟩
          · have H3 := Lib.hid h3
            clear h3 hemp
            go_wp2_with fail
            refine (ref01_Text _ _).mono ?_
            rw [← HX2.out]
            rintro e w1 ⟨rfl, k1⟩
            go_wp2_with fail
            go_ret2
            exact ⟨by rw [H3.out, HE.out]; rfl, k1⟩
          · have h1' : (X.toList == s.toList) = false := by
              rcases h1 with h1 | h1
              · exact h1
              · exact absurd h1 hemp
            have H3 := Lib.hid h3
            clear h3 h1 hemp
            go_wp2_with fail
            refine (ref01_Text _ _).mono ?_
            rw [← HX2.out]
            rintro e w1 ⟨rfl, k1⟩
            go_wp2_with fail
            go_ret2
            exact ⟨by rw [H3.out]; rfl, k1⟩
      · have HE : Hid (t = (-(x : Int))) := by unfold Hid; rw [HT.out, ← e1, ← e2]; rfl
        have HX2 : Hid (X = ⟨(Txt (-(x : Int))).toArray⟩) := by unfold Hid; rw [← HE.out]; exact HX.out
        clear e1 e2 hfull
        by_cases hemp : s.size = 0
        · have h2' : s.toList.isEmpty = true := by
            rw [ByteArray.toList_eq]
            cases hc : s.data.toList with
            | nil => rfl
            | cons c r => exfalso; have : s.data.size = 0 := hemp; rw [← Array.length_toList, hc] at this; simp at this
          have H3 : Hid (R = (0, 2)) := by
            rcases HR.out with ⟨_, h2, _⟩ | ⟨_, h3⟩
            · exact absurd hemp h2
            · exact h3
          have HS0 := Lib.hid hemp
          clear hemp
          go_wp2_with fail
          refine (ref01_Text _ _).mono ?_
          rw [← HX2.out]
          rintro e w1 ⟨rfl, k1⟩
          by_cases hq : (X.toList == s.toList) = true
          · go_wp2_with fail
            go_ret2
            exact ⟨by rw [H3.out]; rfl, k1⟩
          · have hq' : (X.toList == s.toList) = false := by simpa using hq
            clear hq
            go_wp2_with fail
            go_ret2
            exact ⟨by rw [H3.out]; rfl, k1⟩
        · have h2' : s.toList.isEmpty = false := by
            rw [ByteArray.toList_eq]
            cases hc : s.data.toList with
            | nil => exfalso; apply hemp; show s.data.size = 0; rw [← Array.length_toList, hc]; rfl
            | cons => rfl
          rcases HR.out with ⟨h1, _, h3⟩ | ⟨h1, h3⟩
          · have H3 := Lib.hid h3
            clear h3 hemp
            go_wp2_with fail
            refine (ref01_Text _ _).mono ?_
            rw [← HX2.out]
            rintro e w1 ⟨rfl, k1⟩
            go_wp2_with fail
            go_ret2
            exact ⟨by rw [H3.out, HE.out]; rfl, k1⟩
          · have h1' : (X.toList == s.toList) = false := by
              rcases h1 with h1 | h1
              · exact h1
              · exact absurd h1 hemp
            have H3 := Lib.hid h3
            clear h3 h1 hemp
            go_wp2_with fail
            refine (ref01_Text _ _).mono ?_
            rw [← HX2.out]
            rintro e w1 ⟨rfl, k1⟩
            go_wp2_with fail
            go_ret2
            exact ⟨by rw [H3.out]; rfl, k1⟩

theorem ref01_Parse (w : World) (s : ByteArray) (h2 : s.size ≤ maxLen) : Calls Tryd.prog 12 #[.string s] w fun e w' => e = .returned (retP (refP s.data.toList)) ∧ Below w.heap.size w w' := by
  have hl : s.data.toList.length = s.size := by rw [Array.length_toList]; rfl
  by_cases h : 15 < s.size
  · have : refP s.data.toList = none := by unfold refP; rw [if_pos (by omega)]
    rw [this]
    refine (ref01_Parse_long w s h h2).mono ?_
    rintro e w' ⟨rfl, rfl⟩
    exact ⟨rfl, Below.refl _ _⟩
  · have hemp : s.data.toList ≠ [] ↔ s.size ≠ 0 := by
      rw [← hl, ← List.length_pos_iff]; omega
    by_cases hq : Txt (signI (isMinus s.data.toList) (numP s.data.toList)) = s.data.toList ∧ s.data.toList ≠ []
    · have : refP s.data.toList = some (signI (isMinus s.data.toList) (numP s.data.toList)) := by
        unfold refP; rw [if_neg (by omega), if_pos hq]
      rw [this]
      exact ref01_Parse_loop w s (by omega) _ rfl _ rfl (_, 0) (Or.inl ⟨by rw [beq_iff_eq, ByteArray.toList_eq, ByteArray.toList_eq]; exact hq.1, hemp.1 hq.2, rfl⟩)
    · have : refP s.data.toList = none := by
        unfold refP; rw [if_neg (by omega), if_neg hq]
      rw [this]
      refine ref01_Parse_loop w s (by omega) _ rfl _ rfl (0, 2) (Or.inr ⟨?_, rfl⟩)
      by_cases h0 : s.size = 0
      · exact Or.inr h0
      · left
        rw [beq_eq_false_iff_ne, ByteArray.toList_eq, ByteArray.toList_eq]
        exact fun h3 => hq ⟨h3, hemp.2 h0⟩
end Go.Proofs.YtlnlbnpabaddkaaDoor
