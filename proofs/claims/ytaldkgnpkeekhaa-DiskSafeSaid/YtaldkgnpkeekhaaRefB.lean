/-
  Contract of ref22.set: sectors, by numbers, with one anew.
-/
import Derived.Test.YtaldkgnpkeekhaaRefA
namespace Go.Proofs.Ytaldkgnpkeekhaa
open Go.RowKit Go.MapKept

theorem info_sector : ElemInfo Try.prog 109 (.agg #[.int .i64 0, .slice none 0 0]) 2 32 := by unfold ElemInfo; kernel_rfl
theorem secCells_one (p : Int × Sl) : ∀ u ∈ secCells p, u.oneCell' = true := by
  intro u hu; simp only [secCells, List.mem_cons, List.not_mem_nil, or_false] at hu; rcases hu with rfl | rfl <;> rfl

set_option maxRecDepth 100000 in
set_option maxHeartbeats 1000000 in
theorem ref22_set (w : World) (base : Nat) (v : Value) (L : List (Int × Sl)) (k : Int) (u : Sl) (h : SecRow w base v L) (hs : AL.Sorted L) (hlen : L.length ≤ 65536) :
    Calls Try.prog 59 #[v, .agg #[.int .i64 k, .slice u.a u.n u.c]] w fun e w' => ∃ v', e = .returned v' ∧ SecRow w' w.heap.size v' (AL.put k u L) ∧ Keep [] w w' := by
  obtain ⟨a, cap, rfl, hm, _, hat⟩ := h.at
  obtain ⟨ua, un, uc⟩ := u
  have HS := Lib.hid hs
  clear h hm hs
  go_enter Try.func59, Try.ntmps59
  go_wp2
  go_loopw [5, 6, 7] (fun v dn i wr => ∃ (j : Nat) (D : Bool) (O : List (Int × Sl)), j ≤ L.length ∧ i = .int .i64 j ∧ dn = .bool D ∧ Hid (AL.SetInv k ⟨ua, un, uc⟩ L j D O) ∧
      wr.ownsRow (w.heap.size + 1) 109 2 v O.length (flat secCells O) ∧ Keep [] (w.alloc (.cells #[.int .i64 k, .slice ua un uc] 109)) wr) (fun _ _ i _ => L.length - (vInt i).toNat)
  case atStart => exact ⟨0, false, [], Nat.zero_le _, rfl, rfl, AL.SetInv.start _ _ _, own_nil _ _ _ _, Keep.refl _ _⟩
  case round =>
    obtain ⟨j, D, O, hj, rfl, rfl, HE, hown, hk⟩ := hrel
    by_cases hlt : j < L.length
    · obtain ⟨g, rfl, h0, h1⟩ := hat j hlt
      have hgl := block_lt_of_cell h0
      have HF : Hid (∀ W, Keep [] (w.alloc (.cells #[.int .i64 k, .slice ua un uc] 109)) W → ((∀ i, W.cell? ⟨w.heap.size, i, none⟩ = #[Value.int .i64 k, .slice ua un uc][i]?) ∧ W.cell? ⟨g, j * 2, none⟩ = some (.int .i64 L[j].1) ∧
          W.cell? ⟨g, j * 2 + 1, none⟩ = some (.slice L[j].2.a L[j].2.n L[j].2.c) ∧ w.heap.size < W.heap.size)) := by
        intro W hW
        obtain ⟨q1, q2, q3⟩ := cells_of (hW.at (heap_alloc_new w _) (by simp))
        refine ⟨q1, ?_, ?_, q3⟩
        · rw [World.cell?_of_block (w := w) (a := ⟨g, j * 2, none⟩) ((hW.block g (by simp; simp at hgl; omega) (by simp)).trans (Below.heap_alloc _ _ _ hgl))]; exact h0
        · rw [World.cell?_of_block (w := w) (a := ⟨g, j * 2 + 1, none⟩) ((hW.block g (by simp; simp at hgl; omega) (by simp)).trans (Below.heap_alloc _ _ _ hgl))]; exact h1
      obtain ⟨hbc, h0', h1', hbx⟩ := HF.out _ hk
      clear h0 h1 hat
      cases D with
      | true =>
        have HO : Hid (O.length ≤ j + 1) := AL.SetInv.len_true HE.out
        obtain ⟨hgt, hnext⟩ := AL.SetInv.later HS.out hlt HE.out
        have HN := Lib.hid hnext
        have hne : (L[j].1 != k) = true := by rw [bne_iff_ne]; omega
        clear hnext
        go_wp2
        go_quiet (fail)
        go_wp2
        go_quiet (fail)
        go_wp2_with (at_builtin; refine wpList_append_one rfl _ _ 38 rfl Try.underlying38 info_sector rfl (by decide) _ rfl (own_drewN hown _) (secCells L[j]) rfl (secCells_one _) rfl ?_ ?_ ?_ ?_; go_must (exact (by have := HO.out; unfold maxLen; omega)); go_must (exact (by have := HO.out; omega)); go_must (exact (by have := hk.size; simpa using this)); intro v' w' hown' hk' hnn)
        go_roundw
        case rel =>
          refine ⟨j + 1, true, O ++ [L[j]], by omega, by go_num, rfl, HN.out, ?_, hk' _ (hk.drewN _) (by simp)⟩
          rw [flat_snoc, List.length_append]; exact hown'
        case measure => simp only [vInt]; omega
      | false =>
        have HO : Hid (O.length ≤ j) := AL.SetInv.len_false HE.out
        rcases Int.lt_trichotomy L[j].1 k with hlt2 | heq | hgt
        · have hnext := AL.SetInv.before hlt HE.out hlt2
          have HN := Lib.hid hnext
          have hne : (L[j].1 != k) = true := by rw [bne_iff_ne]; omega
          clear hnext
          go_wp2
          go_quiet (fail)
          go_wp2
          go_quiet (fail)
          go_wp2_with (at_builtin; refine wpList_append_one rfl (.tmp 38) (.tmp 43) 38 rfl Try.underlying38 info_sector rfl (by decide) _ rfl (own_drewN hown _) (secCells L[j]) rfl (secCells_one _) rfl ?_ ?_ ?_ ?_; go_must (exact (by have := HO.out; unfold maxLen; omega)); go_must (exact (by have := HO.out; omega)); go_must (exact (by have := (hk).size; simpa using this)); intro v' w' hown' hk' hnn)
          go_roundw
          case rel =>
            refine ⟨j + 1, false, O ++ [L[j]], by omega, by go_num, rfl, HN.out, ?_, hk' _ (hk.drewN _) (by simp)⟩
            rw [flat_snoc, List.length_append]; exact hown'
          case measure => simp only [vInt]; omega
        · have hnext := AL.SetInv.same hlt HE.out heq
          have HN := Lib.hid hnext
          have hne : (L[j].1 != k) = false := by simp [heq]
          have hge : k ≤ L[j].1 := by omega
          clear hnext heq
          go_wp2
          go_quiet (fail)
          go_wp2_with (at_builtin; refine wpList_append_one rfl (.tmp 26) (.tmp 28) 38 rfl Try.underlying38 info_sector rfl (by decide) _ rfl (own_drewN hown _) (secCells (k, ⟨ua, un, uc⟩)) rfl (secCells_one _) rfl ?_ ?_ ?_ ?_; go_must (exact (by have := HO.out; unfold maxLen; omega)); go_must (exact (by have := HO.out; omega)); go_must (exact (by have := (hk).size; simpa using this)); intro v' w' hown' hk' hnn; have hk2 := hk' _ (hk.drewN _) (by simp); obtain ⟨hbc2, h02, h12, hbx2⟩ := HF.out _ hk2; clear hbc h0' h1' hk')
          go_quiet (fail)
          go_wp2
          go_roundw
          case rel =>
            refine ⟨j + 1, true, O ++ [(k, Sl.mk ua un uc)], by omega, by go_num, rfl, HN.out, ?_, hk2.drewN _⟩
            rw [flat_snoc, List.length_append]; exact own_drewN hown' _
          case measure => simp only [vInt]; omega
        · have hnext := AL.SetInv.above (u := ⟨ua, un, uc⟩) hlt HE.out hgt
          have HN := Lib.hid hnext
          have hne : (L[j].1 != k) = true := by rw [bne_iff_ne]; omega
          have hge : k ≤ L[j].1 := by omega
          clear hnext
          go_wp2
          go_quiet (fail)
          go_wp2_with (at_builtin; refine wpList_append_one rfl (.tmp 26) (.tmp 28) 38 rfl Try.underlying38 info_sector rfl (by decide) _ rfl (own_drewN hown _) (secCells (k, ⟨ua, un, uc⟩)) rfl (secCells_one _) rfl ?_ ?_ ?_ ?_; go_must (exact (by have := HO.out; unfold maxLen; omega)); go_must (exact (by have := HO.out; omega)); go_must (exact (by have := (hk).size; simpa using this)); intro v' w' hown' hk' hnn; have hk2 := hk' _ (hk.drewN _) (by simp); obtain ⟨hbc2, h02, h12, hbx2⟩ := HF.out _ hk2; clear hbc h0' h1' hk')
          go_quiet (fail)
          go_wp2_with (at_builtin; refine wpList_append_one rfl (.tmp 38) (.tmp 43) 38 rfl Try.underlying38 info_sector rfl (by decide) _ rfl (own_drewN hown' _) (secCells L[j]) rfl (secCells_one _) rfl ?_ ?_ ?_ ?_; go_must (exact (by have := HO.out; unfold maxLen; omega)); go_must (exact (by have := HO.out; omega)); go_must (exact (by have := (hk2).size; simpa using this)); intro v2 w2 hown2 hk3 hnn2)
          go_roundw
          case rel =>
            refine ⟨j + 1, true, O ++ [(k, Sl.mk ua un uc)] ++ [L[j]], by omega, by go_num, rfl, HN.out, ?_, hk3 _ (hk2.drewN _) (by simp)⟩
            rw [flat_snoc, flat_snoc]; simp only [List.length_append, List.length_cons, List.length_nil]; exact hown2
          case measure => simp only [vInt]; omega
    · obtain rfl : j = L.length := by omega
      have HF : Hid (∀ i, wr.cell? ⟨w.heap.size, i, none⟩ = #[Value.int .i64 k, .slice ua un uc][i]?) := (cells_of (hk.at (heap_alloc_new w _) (by simp))).1
      have hbc := HF.out
      have hkw : Keep [] w (w.alloc (.cells #[.int .i64 k, .slice ua un uc] 109)) := (Keep.refl _ _).alloc _
      cases D with
      | true =>
        have HN := Lib.hid (AL.SetInv.done HE.out)
        clear hat
        go_wp2
        go_ret
        exact ⟨_, rfl, by rw [← HN.out]; exact ownsRow_mono hown (by omega), hkw.then hk⟩
      | false =>
        have HO : Hid (O.length ≤ L.length) := AL.SetInv.len_false HE.out
        have HN := Lib.hid (AL.SetInv.over HE.out)
        clear hat
        go_wp2_with (at_builtin; refine wpList_append_one rfl (.tmp 47) (.tmp 49) 38 rfl Try.underlying38 info_sector rfl (by decide) _ rfl hown (secCells (k, ⟨ua, un, uc⟩)) rfl (secCells_one _) rfl ?_ ?_ ?_ ?_; go_must (exact (by have := HO.out; unfold maxLen; omega)); go_must (exact (by have := HO.out; omega)); go_must (exact (by have := (hk).size; simpa using this)); intro v' w' hown' hk' hnn)
        go_ret
        have hrow : SecRow w' w.heap.size v' (O ++ [(k, Sl.mk ua un uc)]) := by
          unfold SecRow
          rw [flat_snoc, List.length_append]
          exact ownsRow_mono hown' (by omega)
        rw [HN.out] at hrow
        exact ⟨_, rfl, hrow, hkw.then (hk' _ hk (by simp))⟩
end Go.Proofs.Ytaldkgnpkeekhaa
