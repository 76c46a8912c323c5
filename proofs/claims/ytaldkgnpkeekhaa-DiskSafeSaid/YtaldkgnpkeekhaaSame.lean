/-
  Contracts: two lists of bytes compared (ref03.Same); 32 bytes of one value (law22.full).
-/
import Derived.Test.YtaldkgnpkeekhaaRows
import Derived.Test.YtaldkgnpkeekhaaRows2
namespace Go.Proofs.Ytaldkgnpkeekhaa
open Go.RowKit Go.MapKept

theorem ref03_Same_len (w : World) (a b : Option Addr) (n m c d : Nat) (h : n ≠ m) :
    Calls Try.prog 14 #[.slice a n c, .slice b m d] w fun e w' => e = .returned (.bool false) ∧ w = w' := by
  have hb : ((n : Int) != (m : Int)) = true := by rw [bne_iff_ne]; omega
  clear h
  go_enter Try.func14, Try.ntmps14
  go_wp2
  go_ret
  exact ⟨rfl, rfl⟩

set_option maxRecDepth 100000 in
set_option maxHeartbeats 400000 in
theorem ref03_Same_eqlen (w : World) (a b : Option Addr) (c d : Nat) (l m : List Int) (h : l.length = m.length) (hm : l.length ≤ maxLen) (ha : Src w a (bytes l) []) (hb : Src w b (bytes m) []) :
    Calls Try.prog 14 #[.slice a l.length c, .slice b m.length d] w fun e w' => ∃ q, e = .returned (.bool (decide (l = m))) ∧ w.drewN q = w' := by
  obtain ⟨n, hn⟩ : ∃ n, n = l.length := ⟨_, rfl⟩
  rw [← h, ← hn]
  have hne : ((n : Int) != (n : Int)) = false := by simp
  have HN := Lib.hid hn
  have HM := Lib.hid h
  have hm' : n ≤ 9223372036854775807 := by rw [hn]; unfold maxLen at hm; omega
  clear h hm hn
  go_enter Try.func14, Try.ntmps14
  go_wp2
  go_loopw [5] (fun i wr => ∃ (k q : Nat), k ≤ n ∧ i = .int .i64 k ∧ Hid (l.take k = m.take k) ∧ wr = w.drewN q) (fun i _ => n - (vInt i).toNat)
  case atStart => exact ⟨0, 0, Nat.zero_le _, rfl, rfl, rfl⟩
  case round =>
    obtain ⟨k, q, hk, rfl, HE, rfl⟩ := hrel
    by_cases hlt : k < n
    · have h1 : k < l.length := by rw [← HN.out]; exact hlt
      have h2 : k < m.length := by rw [← HM.out]; exact h1
      obtain ⟨ad, rfl, hca⟩ := ha.one (bytes_get h1)
      obtain ⟨bd, rfl, hcb⟩ := hb.one (bytes_get h2)
      by_cases e : l[k] = m[k]
      · have he : (l[k] != m[k]) = false := by simp [e]
        have HE2 : Hid (l.take (k + 1) = m.take (k + 1)) := by
          unfold Hid
          rw [List.take_succ_eq_append_getElem h1, List.take_succ_eq_append_getElem h2, HE.out, e]
        clear e ha hb
        go_wp2
        go_quiet (fail)
        go_wp2
        go_roundw
        case rel => exact ⟨k + 1, q + nq, by omega, by go_num, HE2, rfl⟩
        case measure => simp only [vInt]; omega
      · have he : (l[k] != m[k]) = true := by simp [e]
        have hne2 : l ≠ m := by rintro rfl; exact e rfl
        have HD : Hid (decide (l = m) = false) := by simp [Hid, hne2]
        clear e hne2 ha hb
        go_wp2
        go_quiet (fail)
        go_wp2
        go_ret
        exact ⟨q + nq, by rw [HD.out]; rfl, (drewN_add _ _ _).symm⟩
    · have HD : Hid (decide (l = m) = true) := by
        have hkn : k = n := by omega
        have h2 := HE.out
        rw [hkn, HN.out, List.take_length] at h2
        rw [HM.out, List.take_length] at h2
        simp [Hid, h2]
      go_wp2
      go_ret
      exact ⟨q, by rw [HD.out]; rfl, rfl⟩
/-- ref03.Same: are two lists of bytes one -/
theorem ref03_Same (w : World) (a b : Option Addr) (c d n n' : Nat) (l m : List Int) (hn : n = l.length) (hn' : n' = m.length) (hm : n ≤ maxLen) (ha : Src w a (bytes l) []) (hb : Src w b (bytes m) []) :
    Calls Try.prog 14 #[.slice a n c, .slice b n' d] w fun e w' => ∃ q, e = .returned (.bool (decide (l = m))) ∧ w.drewN q = w' := by
  subst hn hn'
  by_cases h : l.length = m.length
  · exact ref03_Same_eqlen w a b c d l m h hm ha hb
  · refine (ref03_Same_len w a b _ _ c d h).mono fun e w' ⟨he, hw⟩ => ⟨0, ?_, hw⟩
    have : l ≠ m := by rintro rfl; exact h rfl
    rw [he]; simp [this]

def fillRow (z : Int) (k : Nat) : List Int := List.replicate k z ++ List.replicate (32 - k) 0
theorem fillRow_get (z : Int) {k : Nat} (h : k < 32) : (bytes (fillRow z k))[k]? = some (.int .u8 0) := by
  rw [bytes_get (by simp [fillRow]; omega)]
  simp [fillRow]
theorem fillRow_set (z : Int) {k : Nat} (h : k < 32) : (bytes (fillRow z k)).set k (.int .u8 z) = bytes (fillRow z (k + 1)) := by
  have e : List.replicate (32 - k) (0 : Int) = 0 :: List.replicate (32 - (k + 1)) 0 := by
    rw [show 32 - k = (32 - (k + 1)) + 1 by omega, List.replicate_succ]
  simp only [fillRow, e, bytes, List.map_append, List.map_cons, List.map_replicate]
  rw [List.set_append_right _ _ (by simp)]
  simp only [List.length_replicate, Nat.sub_self, List.set_cons_zero]
  rw [List.replicate_succ', List.append_assoc]
  rfl
set_option maxRecDepth 100000 in
theorem law22_full (w : World) (z : Int) :
    Calls Try.prog 21 #[.int .u8 z] w fun e w' => ∃ v, e = .returned v ∧ w'.ownsRow w.heap.size 5 1 v 32 (bytes (List.replicate 32 z)) ∧ Keep [] w w' := by
  have hmk : ∀ w, (Instr.makeSlice 34 (.int .i64 32) (.int .i64 32)).run Try.prog w = .ok (.slice (some ⟨w.heap.size, 0, none⟩) 32 32) (w.alloc (.cells (bytes (fillRow z 0)).toArray 5)) := fun _ => by kernel_rfl
  go_enter Try.func21, Try.ntmps21
  go_wp2
  go_loopw [4] (fun i wr => ∃ (k : Nat), k ≤ 32 ∧ i = .int .i64 k ∧ Hid (wr.heap[w.heap.size]? = some (.cells (bytes (fillRow z k)).toArray 5 (0, 0))) ∧ Keep [] w wr) (fun i _ => 32 - (vInt i).toNat)
  case atStart => exact ⟨0, by omega, rfl, heap_alloc_new w _, (Keep.refl _ _).alloc _⟩
  case round =>
    obtain ⟨k, hk, rfl, HB, hkeep⟩ := hrel
    by_cases hlt : k < 32
    · have hck : wr.cell? ⟨w.heap.size, k, none⟩ = some (.int .u8 0) := by
        rw [cell_of_row _ _ k _ _ _ HB.out]; simpa using fillRow_get z hlt
      have hfk : wr.frozen? ⟨w.heap.size, k, none⟩ = false := frozen_of_row _ _ _ _ _ HB.out
      go_wp2
      go_roundw
      case rel =>
        refine ⟨k + 1, by omega, by go_num, ?_, hkeep.setCell _ _ (by simp)⟩
        have := heap_setCell_same wr w.heap.size k _ _ (.int .u8 z) HB.out
        unfold Hid
        rw [this]
        simp only [List.setIfInBounds_toArray, fillRow_set z hlt]
      case measure => simp only [vInt]; omega
    · obtain rfl : k = 32 := by omega
      go_wp2
      go_ret
      refine ⟨_, rfl, ⟨by simp [bytes], .inr ⟨w.heap.size, 32, _, rfl, Nat.le_refl _, HB.out, by omega, by unfold maxLen; omega, by simp [bytes, fillRow], ?_⟩⟩, hkeep⟩
      simp [fillRow, bytes]
end Go.Proofs.Ytaldkgnpkeekhaa
