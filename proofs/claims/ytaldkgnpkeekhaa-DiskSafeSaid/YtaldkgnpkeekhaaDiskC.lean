/-
  Contracts of package disk, continued: Write.
-/
import Derived.Test.YtaldkgnpkeekhaaDiskB
import Derived.Laws.CopyOwn
namespace Go.Proofs.Ytaldkgnpkeekhaa
open Go.RowKit Go.MapKept

/-- what Write answers, and leaves -/
def ADisk.write (d : ADisk) (i : Int) (l : List Int) : ADisk × Int :=
  if d.wrong i ≠ 0 then (d, d.wrong i) else if l.length ≠ 32 then (d, 1) else if d.p = 0 then (d.spend, 14) else ({ d.spend with way := AL.put i l d.way }, 0)

theorem size_u8 : (Try.prog.info? 5).map (·.size) = some 1 := by kernel_rfl
theorem splice_all {α : Type} (l m : List α) (h : l.length = m.length) : splice l 0 m = m := by
  simp [splice, h]

set_option maxRecDepth 100000 in
set_option maxHeartbeats 400000 in
theorem Disk_Write (w : World) (x s y : Nat) (d : ADisk) (i : Int) (a : Option Addr) (n cap : Nat) (l : List Int) (h : DiskP w x s y d) (ok : d.Ok) (hn : n = l.length) (hsrc : Src w a (bytes l) [x, s, y]) :
    Calls Try.prog 20 #[.pointer (some ⟨x, 0, none⟩), .int .i64 i, .slice a n cap] w fun e w' => e = .returned (.int .i64 (d.write i l).2) ∧ DiskP w' x s y (d.write i l).1 ∧ Keep [x, s, y] w w' := by
  subst hn
  by_cases hw : d.wrong i = 0
  · by_cases hl : l.length = 32
    · by_cases hp : d.p = 0
      · have e : d.write i l = (d.spend, 14) := by simp [ADisk.write, hw, hl, hp]
        rw [e]
        have HP : Hid (decide (d.p ≠ 0) = false) := by simp [Hid, hp]
        have HO := Lib.hid ok
        have HW := Lib.hid hw
        rw [hl]
        clear hw hl hp e ok hsrc
        go_enter Try.func20, Try.ntmps20
        go_wp2_with (first
          | (go_at_call 42; refine (Disk_wrong _ _ _ _ _ _ h).mono ?_; rw [HW.out]; rintro e w' ⟨rfl, rfl⟩)
          | (go_at_call 47; refine (Disk_spend _ _ _ _ _ h HO.out.p HO.out.p2).mono ?_; rw [HP.out]; rintro e w' ⟨rfl, h', hk⟩))
        go_ret
        exact ⟨rfl, h', hk.mono (by simp)⟩
      · have e : d.write i l = ({ d.spend with way := AL.put i l d.way }, 0) := by simp [ADisk.write, hw, hl, hp]
        rw [e]
        have HP : Hid (decide (d.p ≠ 0) = true) := by simp [Hid, hp]
        have HO := Lib.hid ok
        have HW := Lib.hid hw
        have HL := Lib.hid hl
        rw [hl]
        clear hw hl hp e ok
        go_enter Try.func20, Try.ntmps20
        go_wp2_with (first
          | (go_at_call 42; refine (Disk_wrong _ _ _ _ _ _ h).mono ?_; rw [HW.out]; rintro e w' ⟨rfl, rfl⟩)
          | (go_at_call 47; refine (Disk_spend _ _ _ _ _ h HO.out.p HO.out.p2).mono ?_; rw [HP.out]; rintro e w1 ⟨rfl, h1, hk1⟩)
          | ((with_reducible refine wpList_copy_splice rfl _ _ 34 34 rfl 5 Try.underlying34 size_u8 (some ⟨w1.heap.size, 0, none⟩) a 32 32 32 cap ?_ ?_ w1.heap.size 0 (bytes zeros) 82 ?_ (bytes l) ?_ ?_ ?_ (bytes_one l) w1.heap.size _ (Below.refl _ _) (Nat.le_refl _) ?_); go_must (rfl); go_must (rfl); go_must (exact heap_alloc_new _ _); go_must (exact (by simp [bytes, HL.out])); go_must (exact (fun hp => ⟨rfl, ((hsrc.keep hk1 (by simp)).alloc _).at_ hp⟩)); go_must (exact (by simp [bytes, zeros, HL.out])); intro w2 hb2 hk2))
        have hb3 : w2.heap[w1.heap.size]? = some (.cells (bytes l).toArray 82 (0, 0)) := by
          have := hb2.out
          rwa [splice_all _ _ (by simp [bytes, zeros, HL.out])] at this
        have hk3 : Keep [] w1 w2 := ⟨hk2.os, hk2.tape, hk2.output, Nat.le_trans (by simp) hk2.size, fun k hk _ => (hk2.block k hk).trans (Below.heap_alloc _ _ _ hk)⟩
        have h2 := (h1.keep hk3 (by simp) (by simp) (by simp)).drew
        have hk4 := hk3.drew
        have hb4 : w2.drew.heap[w1.heap.size]? = some (.cells (bytes l).toArray 82 (0, 0)) := hb3
        clear hb2 hb3 hk2 h hsrc hk3
        go_frame
        refine wp_region_still_tail 6 (by kernel_rfl) (by kernel_rfl) ?_
        change wpStill _ _ w2.drew (fun a' => wpList _ _ _ _ a' w2.drew) _ _
        generalize w2.drew = w3 at *
        obtain ⟨hc2, hf2, hx2⟩ := cells_of h2.obj
        have hw2 := h2.way
        rw [spend_way] at hw2
        have HB := Lib.hid hb4
        clear hb4
        simp only [List.take_succ_cons, List.take_zero, List.drop_succ_cons, List.drop_zero]
        iterate 5 still_step
        refine wpStill_load_row rfl 82 _ rfl w1.heap.size rfl 82 (bytes l).toArray (0, 0) _ HB.out Try.underlying82 rfl (size_sector HL.out) ?_
        refine wpStill_nil ?_
        go_wp2_with (at_mapUpdate; refine wpList_mapUpdate_im rfl _ _ _ 77 rfl Try.underlying77 Try.underlying3 rfl i rfl l rfl hw2 ?_; intro w4 hm4 hk5 hs4)
        go_ret
        refine ⟨rfl, ⟨hk5.at h2.obj (by simpa using h2.nes.2), ?_, hm4, h2.ne⟩, ?_⟩
        · exact h2.safe.of_block (hk5.block s h2.lt.2.1 (by simpa using h2.ne))
        · exact (hk1.trans hk4 (U := [x, s, y]) (by simp) (by simp)).trans hk5 (fun _ h => h) (by simp)
    · have e : d.write i l = (d, 1) := by simp [ADisk.write, hw, hl]
      rw [e]
      have HW := Lib.hid hw
      have hl' : ((l.length : Int) != 32) = true := by rw [bne_iff_ne]; omega
      clear hw e hsrc hl
      go_enter Try.func20, Try.ntmps20
      go_wp2_with (go_at_call 42; refine (Disk_wrong _ _ _ _ _ _ h).mono ?_; rw [HW.out]; rintro e w' ⟨rfl, rfl⟩)
      go_ret
      exact ⟨rfl, h, Keep.refl _ _⟩
  · have e : d.write i l = (d, d.wrong i) := by simp [ADisk.write, hw]
    rw [e]
    have hw' : (d.wrong i != 0) = true := by simpa using hw
    clear hw e hsrc
    go_enter Try.func20, Try.ntmps20
    go_wp2_with (go_at_call 42; refine (Disk_wrong _ _ _ _ _ _ h).mono ?_; rintro e w' ⟨rfl, rfl⟩)
    go_ret
    exact ⟨rfl, h, Keep.refl _ _⟩
end Go.Proofs.Ytaldkgnpkeekhaa
