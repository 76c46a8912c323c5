/-
  The law's step (law22.step): one act, in the program's disk and in the reference's.
-/
import Derived.Test.YtaldkgnpkeekhaaRefE
import Derived.Deep.RegionHeld3
namespace Go.Proofs.Ytaldkgnpkeekhaa
open Go.RowKit Go.MapKept

theorem RefDisk.keep {w w' : World} {m : Nat} {d : ADisk} {S : List Nat} (h : RefDisk w m d) (k : Keep S w w') (hS : ∀ b ∈ S, NoRef w b) : RefDisk w' m d := by
  obtain ⟨sv, yv, Ls, Ly, h⟩ := h
  exact (h.keep k hS).disk
theorem RefDisk.keepDisk {w w' : World} {x s y m : Nat} {d d' : ADisk} (r : RefDisk w m d) (h : DiskP w x s y d') (k : Keep [x, s, y] w w') : RefDisk w' m d := r.keep k h.noRef
theorem RefDisk.keep0 {w w' : World} {m : Nat} {d : ADisk} (r : RefDisk w m d) (k : Keep [] w w') : RefDisk w' m d := r.keep k (fun _ h => by cases h)
theorem DiskP.keepRefDisk {w w' : World} {x s y m : Nat} {d d' : ADisk} (h : DiskP w x s y d) (r : RefDisk w m d') (k : Keep [m] w w') : DiskP w' x s y d := by
  obtain ⟨sv, yv, Ls, Ly, r⟩ := r
  exact h.keepRef r k
theorem DiskP.keep0 {w w' : World} {x s y : Nat} {d : ADisk} (h : DiskP w x s y d) (k : Keep [] w w') : DiskP w' x s y d := h.keep k (by simp) (by simp) (by simp)
theorem RefDisk.block {w : World} {m : Nat} {d : ADisk} (h : RefDisk w m d) : ∃ cs fr, w.heap[m]? = some (.cells cs 40 fr) := by
  obtain ⟨sv, yv, Ls, Ly, h⟩ := h
  exact ⟨_, _, h.obj⟩
theorem RefDisk.lt {w : World} {m : Nat} {d : ADisk} (h : RefDisk w m d) : m < w.heap.size := by
  obtain ⟨_, _, h⟩ := h.block; exact lt_of_block h
theorem DiskP.block {w : World} {x s y : Nat} {d : ADisk} (h : DiskP w x s y d) : ∀ b ∈ [x, s, y], ∀ cs fr, w.heap[b]? ≠ some (.cells cs 5 fr) := by
  intro b hb cs fr e
  exact (h.noRef b hb _ _ _ e).2.2 rfl
theorem RefDisk.block8 {w : World} {m : Nat} {d : ADisk} (h : RefDisk w m d) : ∀ b ∈ [m], ∀ cs fr, w.heap[b]? ≠ some (.cells cs 5 fr) := by
  intro b hb cs fr e
  obtain ⟨_, _, h⟩ := h.block
  obtain rfl : b = m := by simpa using hb
  rw [h] at e; cases e

/-- both disks, alike -/
structure Both (w : World) (x s y m : Nat) (d : ADisk) : Prop where
  dp : DiskP w x s y d
  rd : RefDisk w m d
  ok : d.Good
theorem Both.keep0 {w w' : World} {x s y m : Nat} {d : ADisk} (h : Both w x s y m d) (k : Keep [] w w') : Both w' x s y m d := ⟨h.dp.keep0 k, h.rd.keep0 k, h.ok⟩

def ADisk.act (d : ADisk) (kind i c keep : Int) : ADisk :=
  if kind % 9 = 4 then d.flush.1 else if kind % 9 = 5 then d else if kind % 9 = 6 then d.arm i else if kind % 9 = 7 then d.restart keep else if kind % 9 = 8 then (d.write i [c]).1 else (d.write i (List.replicate 32 c)).1

def Stepped (w : World) (x s y m : Nat) (d' : ADisk) (e : Ending) (w' : World) : Prop := e = .returned (.bool true) ∧ Both w' x s y m d' ∧ Keep [x, s, y, m] w w'

theorem Stepped.mk' {w wb w1 w2 : World} {x s y m : Nat} {d d' : ADisk} (kb : Keep [] w wb) (h : Both wb x s y m d) (h1 : DiskP w1 x s y d') (hk1 : Keep [x, s, y] wb w1) (h2 : RefDisk w2 m d') (hk2 : Keep [m] w1 w2) (ok : d'.Good) :
    Both w2 x s y m d' ∧ Keep [x, s, y, m] w w2 :=
  ⟨⟨h1.keepRefDisk (h.rd.keepDisk h.dp hk1) hk2, h2, ok⟩, ((kb.mono (T := [x, s, y, m]) (by simp)).trans hk1 (U := [x, s, y, m]) (fun _ h => h) (by simp)).trans hk2 (fun _ h => h) (by simp)⟩
set_option maxRecDepth 100000 in
set_option maxHeartbeats 1000000 in
theorem step_flush (w : World) (x s y m : Nat) (d : ADisk) (kind i c keep : Int) (h : Both w x s y m d) (h0 : 0 ≤ kind) (h9 : kind ≤ 255) (hk : kind % 9 = 4) :
    Calls Try.prog 11 #[.pointer (some ⟨x, 0, none⟩), .pointer (some ⟨m, 0, none⟩), .agg #[.int .u8 kind, .int .i64 i, .int .u8 c, .int .u64 keep]] w (Stepped w x s y m d.flush.1) := by
  have hb4 : (kind % 9 == 4) = true := by simp [hk]
  have kb : Keep [] w (w.alloc (.cells #[.int .u8 kind, .int .i64 i, .int .u8 c, .int .u64 keep] 33)) := (Keep.refl _ _).alloc _
  have H1 := Lib.hid (h.keep0 kb)
  have KB := Lib.hid kb
  clear h hk kb
  go_enter Try.func11, Try.ntmps11
  go_wp2_with (first
    | (go_at_call 22; refine (Disk_Flush _ x s y d H1.out.dp H1.out.ok.toOk).mono ?_; rintro e w1 ⟨rfl, h1, hk1⟩)
    | (go_at_call 41; refine (ref22_Flush' w1 m d (H1.out.rd.keepDisk H1.out.dp hk1) H1.out.ok).mono ?_; rintro e w2 ⟨rfl, h2, hk2⟩))
  go_ret
  obtain ⟨q1, q2⟩ := Stepped.mk' KB.out H1.out h1 hk1 h2 hk2 (flush_good H1.out.ok)
  exact ⟨rfl, q1, q2⟩
set_option maxRecDepth 100000 in
set_option maxHeartbeats 1000000 in
theorem step_arm (w : World) (x s y m : Nat) (d : ADisk) (kind i c keep : Int) (h : Both w x s y m d) (h0 : 0 ≤ kind) (h9 : kind ≤ 255) (hi : i ≤ 9223372036854775807) (hk : kind % 9 = 6) :
    Calls Try.prog 11 #[.pointer (some ⟨x, 0, none⟩), .pointer (some ⟨m, 0, none⟩), .agg #[.int .u8 kind, .int .i64 i, .int .u8 c, .int .u64 keep]] w (Stepped w x s y m (d.arm i)) := by
  have hb4 : (kind % 9 == 4) = false := by simp [hk]
  have hb5 : (kind % 9 == 5) = false := by simp [hk]
  have hb6 : (kind % 9 == 6) = true := by simp [hk]
  have kb : Keep [] w (w.alloc (.cells #[.int .u8 kind, .int .i64 i, .int .u8 c, .int .u64 keep] 33)) := (Keep.refl _ _).alloc _
  have H1 := Lib.hid (h.keep0 kb)
  have H0 := Lib.hid h
  have KB := Lib.hid kb
  have HI := Lib.hid hi
  clear h hk kb hi
  go_enter Try.func11, Try.ntmps11
  go_wp2_with (first
    | (go_at_call 18; refine (Disk_Arm _ x s y d H1.out.dp i).mono ?_; rintro e w1 ⟨rfl, h1, hk1⟩; obtain ⟨hbc, _, hbx⟩ := cells_of (hk1.at (heap_alloc_new w _) (by have := H0.out.dp.lt; simp; omega)))
    | (go_at_call 29; refine (ref22_Arm' w1 m d (H1.out.rd.keepDisk H1.out.dp (hk1.mono (by simp))) i).mono ?_; rintro e w2 ⟨rfl, h2, hk2⟩))
  go_ret
  obtain ⟨q1, q2⟩ := Stepped.mk' KB.out H1.out h1 (hk1.mono (by simp)) h2 hk2 (arm_good H1.out.ok i HI.out)
  exact ⟨rfl, q1, q2⟩
set_option maxRecDepth 100000 in
set_option maxHeartbeats 1000000 in
theorem step_restart (w : World) (x s y m : Nat) (d : ADisk) (kind i c keep : Int) (h : Both w x s y m d) (h0 : 0 ≤ kind) (h9 : kind ≤ 255) (hq : 0 ≤ keep ∧ keep ≤ 18446744073709551615) (hk : kind % 9 = 7) :
    Calls Try.prog 11 #[.pointer (some ⟨x, 0, none⟩), .pointer (some ⟨m, 0, none⟩), .agg #[.int .u8 kind, .int .i64 i, .int .u8 c, .int .u64 keep]] w (Stepped w x s y m (d.restart keep)) := by
  have hb4 : (kind % 9 == 4) = false := by simp [hk]
  have hb5 : (kind % 9 == 5) = false := by simp [hk]
  have hb6 : (kind % 9 == 6) = false := by simp [hk]
  have hb7 : (kind % 9 == 7) = true := by simp [hk]
  have kb : Keep [] w (w.alloc (.cells #[.int .u8 kind, .int .i64 i, .int .u8 c, .int .u64 keep] 33)) := (Keep.refl _ _).alloc _
  have H1 := Lib.hid (h.keep0 kb)
  have H0 := Lib.hid h
  have KB := Lib.hid kb
  have HQ := Lib.hid hq
  clear h hk kb hq
  go_enter Try.func11, Try.ntmps11
  go_wp2_with (first
    | (go_at_call 19; refine (Disk_Restart _ x s y d keep H1.out.dp H1.out.ok.toOk H1.out.ok.way_len HQ.out.1 HQ.out.2).mono ?_; rintro e w1 ⟨rfl, h1, hk1⟩; obtain ⟨hbc, _, hbx⟩ := cells_of (hk1.at (heap_alloc_new w _) (by have := H0.out.dp.lt; simp; omega)))
    | (go_at_call 30; refine (ref22_Restart w1 m d keep (H1.out.rd.keepDisk H1.out.dp hk1) H1.out.ok HQ.out.1 HQ.out.2).mono ?_; rintro e w2 ⟨rfl, h2, hk2⟩))
  go_ret
  obtain ⟨q1, q2⟩ := Stepped.mk' KB.out H1.out h1 hk1 h2 hk2 (restart_good H1.out.ok keep)
  exact ⟨rfl, q1, q2⟩

set_option maxRecDepth 100000 in
set_option maxHeartbeats 1000000 in
theorem step_read (w : World) (x s y m : Nat) (d : ADisk) (kind i c keep : Int) (h : Both w x s y m d) (h0 : 0 ≤ kind) (h9 : kind ≤ 255) (hk : kind % 9 = 5) :
    Calls Try.prog 11 #[.pointer (some ⟨x, 0, none⟩), .pointer (some ⟨m, 0, none⟩), .agg #[.int .u8 kind, .int .i64 i, .int .u8 c, .int .u64 keep]] w (Stepped w x s y m d) := by
  have hb4 : (kind % 9 == 4) = false := by simp [hk]
  have hb5 : (kind % 9 == 5) = true := by simp [hk]
  have kb : Keep [] w (w.alloc (.cells #[.int .u8 kind, .int .i64 i, .int .u8 c, .int .u64 keep] 33)) := (Keep.refl _ _).alloc _
  have H1 := Lib.hid (h.keep0 kb)
  have KB := Lib.hid kb
  clear h hk kb
  go_enter Try.func11, Try.ntmps11
  go_wp2_with (first
    | (go_at_call 12; refine (Disk_Read _ x s y d H1.out.dp H1.out.ok i).mono ?_; rintro e w1 ⟨v1, rfl, ⟨l1, hl1, hv1⟩, hk1⟩; obtain ⟨hbc, _, hbx⟩ := cells_of (hk1.at (heap_alloc_new w _) (by simp)); obtain ⟨a1, c1, rfl, hs1, hm1⟩ := own_src hv1 (S := []) (by simp); have HL1 := Lib.hid hl1; clear hl1)
    | (go_at_call 13; refine (ref22_Read w1 m d (H1.out.rd.keep0 hk1) H1.out.ok i).mono ?_; rintro e w2 ⟨v2, rfl, ⟨l2, hl2, hv2⟩, hk2⟩; obtain ⟨a2, c2, rfl, hs2, hm2⟩ := own_src hv2 (S := []) (by simp); obtain rfl : l1 = l2 := HL1.out.trans hl2.symm; clear hl2)
    | (go_at_call 14; refine (ref03_Same w2 a1 a2 c1 c2 l1.length l1.length l1 l1 rfl rfl hm1 (hs1.keep hk2 (by simp)) hs2).mono ?_; rintro e w3 ⟨q, rfl, rfl⟩))
  go_ret
  have hq : Keep [] w (w2.drewN q) := (KB.out.then hk1).then (hk2.drewN q)
  exact ⟨by simp, (H1.out.keep0 (hk1.then (hk2.drewN q))), hq.mono (by simp)⟩

set_option maxRecDepth 100000 in
set_option maxHeartbeats 2000000 in
theorem step_write (w : World) (x s y m : Nat) (d : ADisk) (kind i c keep : Int) (h : Both w x s y m d) (h0 : 0 ≤ kind) (h9 : kind ≤ 255) (hk : kind % 9 < 4) :
    Calls Try.prog 11 #[.pointer (some ⟨x, 0, none⟩), .pointer (some ⟨m, 0, none⟩), .agg #[.int .u8 kind, .int .i64 i, .int .u8 c, .int .u64 keep]] w (Stepped w x s y m (d.write i (List.replicate 32 c)).1) := by
  have hb4 : (kind % 9 == 4) = false := by simp; omega
  have hb5 : (kind % 9 == 5) = false := by simp; omega
  have hb6 : (kind % 9 == 6) = false := by simp; omega
  have hb7 : (kind % 9 == 7) = false := by simp; omega
  have hb8 : (kind % 9 == 8) = false := by simp; omega
  have kb : Keep [] w (w.alloc (.cells #[.int .u8 kind, .int .i64 i, .int .u8 c, .int .u64 keep] 33)) := (Keep.refl _ _).alloc _
  have H0 := Lib.hid h
  have H1 := Lib.hid (h.keep0 kb)
  have KB := Lib.hid kb
  obtain ⟨wb, hwb⟩ : ∃ wb, wb = w.alloc (.cells #[.int .u8 kind, .int .i64 i, .int .u8 c, .int .u64 keep] 33) := ⟨_, rfl⟩
  have HB : Hid (∀ W S, Keep S wb W → (∀ b ∈ S, b ≠ w.heap.size) → W.cell? ⟨w.heap.size, 1, none⟩ = some (.int .i64 i) ∧ W.cell? ⟨w.heap.size, 2, none⟩ = some (.int .u8 c)) := by
    intro W S hW hS
    have := (cells_of (hW.at (b := w.heap.size) (by rw [hwb]; exact heap_alloc_new w _) (fun q => hS _ q rfl))).1
    exact ⟨by rw [this]; rfl, by rw [this]; rfl⟩
  rw [← hwb] at H1 KB
  have HWB := Lib.hid hwb
  clear h hk kb hwb
  go_enter Try.func11, Try.ntmps11
  go_wp2
  rw [← HWB.out]
  have tok : True := trivial
  go_region_held3 (fun w' => w'.cell? ⟨w.heap.size, 1, none⟩ = some (.int .i64 i) ∧ w'.cell? ⟨w.heap.size, 2, none⟩ = some (.int .u8 c)) ((first | exact HB.out _ _ (Keep.refl [] wb).drew (by simp) | exact hS4 | exact hS3 | exact hS2 | exact hS1))
    (first
      | (go_at_call 21; have _t := tok; refine (law22_full _ c).mono ?_; rintro e w1 ⟨v1, rfl, hv1, hk1⟩; clear tok; have kk1 : Keep [] wb w1 := (Keep.refl [] wb).drew.then hk1; have hS1 := HB.out w1 _ kk1 (by simp); have b1 := H1.out.keep0 kk1; obtain ⟨a1, c1, rfl, hs1, hm1⟩ := own_src hv1 b1.dp.block)
      | (go_at_call 20; refine (Disk_Write w1 x s y d i a1 32 c1 (List.replicate 32 c) b1.dp b1.ok.toOk (by simp) hs1).mono ?_; rintro e w2 ⟨rfl, h2, hk2⟩; have kk2 : Keep [x, s, y] wb w2 := (kk1.mono (T := [x, s, y]) (by simp)).trans hk2 (fun _ h => h) (fun _ h => .inl h); have hS2 := HB.out w2 _ kk2 (by have := H0.out.dp.lt; simp; omega); have r2 := b1.rd.keepDisk b1.dp hk2)
      | (go_at_call 21; refine (law22_full w2 c).mono ?_; rintro e w3 ⟨v3, rfl, hv3, hk3⟩; have kk3 : Keep [x, s, y] wb w3 := kk2.trans hk3 (fun _ h => h) (fun _ h => by cases h); have hS3 := HB.out w3 _ kk3 (by have := H0.out.dp.lt; simp; omega); have r3 := r2.keep0 hk3; obtain ⟨a3, c3, rfl, hs3, hm3⟩ := own_src hv3 r3.block8)
      | (go_at_call 39; refine (ref22_Write w3 m d i a3 32 c3 (List.replicate 32 c) r3 b1.ok (by simp) hs3).mono ?_; rintro e w4 ⟨rfl, h4, hk4⟩; have kk4 : Keep [x, s, y, m] wb w4 := (kk3.mono (T := [x, s, y, m]) (by simp)).trans hk4 (fun _ h => h) (by simp); have hS4 := HB.out w4 _ kk4 (by have := H0.out.dp.lt; have := H0.out.rd.lt; simp; omega)))
  all_goals
    have q1 : Both w4 x s y m (d.write i (List.replicate 32 c)).1 := ⟨(h2.keep0 hk3).keepRefDisk r3 hk4, h4, write_good b1.ok i _⟩
    have q2 : Keep [x, s, y, m] w w4 := (KB.out.mono (T := [x, s, y, m]) (by simp)).trans kk4 (fun _ h => h) (fun _ h => .inl h)
    have Q1 := Lib.hid q1
    have Q2 := Lib.hid q2
    clear q1 q2 hS1 hS2 hS3 hS4 h4 h2 r3 r2 b1
    go_wp2
    go_ret
    exact ⟨by simp, Q1.out, Q2.out⟩

theorem src_one {W : World} {k : Nat} {c : Int} {S : List Nat} (hc : W.cell? ⟨k, 0, none⟩ = some (.int .u8 c)) (hk : k ∉ S) : Src W (some ⟨k, 0, none⟩) (bytes [c]) S :=
  ⟨fun _ => ⟨_, rfl, fun j u hu => by
    rw [Addr.add_flat, Nat.zero_add]
    cases j with
    | zero => simp [bytes] at hu; subst hu; exact hc
    | succ j => simp [bytes] at hu⟩, fun ad had => by cases had; exact hk⟩

set_option maxRecDepth 100000 in
set_option maxHeartbeats 2000000 in
theorem step_short (w : World) (x s y m : Nat) (d : ADisk) (kind i c keep : Int) (h : Both w x s y m d) (h0 : 0 ≤ kind) (h9 : kind ≤ 255) (hk : kind % 9 = 8) :
    Calls Try.prog 11 #[.pointer (some ⟨x, 0, none⟩), .pointer (some ⟨m, 0, none⟩), .agg #[.int .u8 kind, .int .i64 i, .int .u8 c, .int .u64 keep]] w (Stepped w x s y m (d.write i [c]).1) := by
  have hb4 : (kind % 9 == 4) = false := by simp [hk]
  have hb5 : (kind % 9 == 5) = false := by simp [hk]
  have hb6 : (kind % 9 == 6) = false := by simp [hk]
  have hb7 : (kind % 9 == 7) = false := by simp [hk]
  have hb8 : (kind % 9 == 8) = true := by simp [hk]
  have kb : Keep [] w (w.alloc (.cells #[.int .u8 kind, .int .i64 i, .int .u8 c, .int .u64 keep] 33)) := (Keep.refl _ _).alloc _
  have H0 := Lib.hid h
  have H1 := Lib.hid (h.keep0 kb)
  have KB := Lib.hid kb
  obtain ⟨wb, hwb⟩ : ∃ wb, wb = w.alloc (.cells #[.int .u8 kind, .int .i64 i, .int .u8 c, .int .u64 keep] 33) := ⟨_, rfl⟩
  have HB : Hid (∀ W S, Keep S wb W → (∀ b ∈ S, b ≠ w.heap.size) → W.cell? ⟨w.heap.size, 1, none⟩ = some (.int .i64 i) ∧ W.cell? ⟨w.heap.size, 2, none⟩ = some (.int .u8 c)) := by
    intro W S hW hS
    have := (cells_of (hW.at (b := w.heap.size) (by rw [hwb]; exact heap_alloc_new w _) (fun q => hS _ q rfl))).1
    exact ⟨by rw [this]; rfl, by rw [this]; rfl⟩
  have hltw : w.heap.size < wb.heap.size := by rw [hwb]; simp
  rw [← hwb] at H1 KB
  have HWB := Lib.hid hwb
  have hlx := H1.out.dp.lt
  have hlm := H1.out.rd.lt
  clear h hk kb hwb
  go_enter Try.func11, Try.ntmps11
  go_wp2
  rw [← HWB.out]
  have HA : Hid (wb.heap.size + 1 < ((wb.drew.alloc (.cells #[.int .u8 c] 5)).alloc (.cells #[.int .u8 c] 5)).heap.size ∧ wb.heap.size < ((wb.drew.alloc (.cells #[.int .u8 c] 5)).alloc (.cells #[.int .u8 c] 5)).heap.size ∧ wb.heap.size + 1 ∉ [x, s, y] ∧ wb.heap.size ∉ [x, s, y]) :=
    ⟨by simp, by simp; omega, by simp; omega, by simp; omega⟩
  go_region_held3 (fun w' => w'.cell? ⟨w.heap.size, 1, none⟩ = some (.int .i64 i) ∧ w'.cell? ⟨w.heap.size, 2, none⟩ = some (.int .u8 c)) ((first | exact HB.out _ _ (Keep.refl [] wb).drew (by simp) | exact HB.out _ _ ((Keep.refl [] wb).drew.alloc _) (by simp) | exact HB.out _ _ (((Keep.refl [] wb).drew.alloc _).alloc _) (by simp) | exact hS4 | exact hS2 | exact HB.out _ _ (kk2.alloc _) hSd))
    (first
      | (go_at_call 20; refine (Disk_Write _ x s y d i (some ⟨_, 0, none⟩) 1 _ [c] (H1.out.dp.keep0 (by first | exact ((Keep.refl [] wb).drew.alloc _) | exact (((Keep.refl [] wb).drew.alloc _).alloc _))) H1.out.ok.toOk rfl (src_one ?_ ?_)).mono ?_; (go_simp); (simp; omega); rintro e w2 ⟨rfl, h2, hk2⟩; have kk2 : Keep [x, s, y] wb w2 := ((by first | exact ((Keep.refl [x, s, y] wb).drew.alloc _) | exact (((Keep.refl [x, s, y] wb).drew.alloc _).alloc _) : Keep [x, s, y] wb _)).trans hk2 (fun _ h => h) (fun _ h => .inl h); have hSd : ∀ b ∈ [x, s, y], b ≠ w.heap.size := (by have := H0.out.dp.lt; simp; omega); have hS2 := HB.out w2 _ kk2 hSd; have r2 := H1.out.rd.keepDisk H1.out.dp kk2; (try have hq1 := (World.cell?_of_block (a := ⟨wb.heap.size + 1, 0, none⟩) (w := (wb.drew.alloc (.cells #[.int .u8 c] 5)).alloc (.cells #[.int .u8 c] 5)) (hk2.block (wb.heap.size + 1) HA.out.1 HA.out.2.2.1)).trans (cell_of_row _ _ 0 _ _ _ (heap_alloc2_new wb.drew _ _))); (try have hq0 := (World.cell?_of_block (a := ⟨wb.heap.size, 0, none⟩) (w := (wb.drew.alloc (.cells #[.int .u8 c] 5)).alloc (.cells #[.int .u8 c] 5)) (hk2.block wb.heap.size HA.out.2.1 HA.out.2.2.2)).trans (cell_of_row _ _ 0 _ _ _ (heap_alloc2_old wb.drew _ _))); have hsz2 := hk2.size)
      | (go_at_call 39; refine (ref22_Write _ m d i (some ⟨_, 0, none⟩) 1 _ [c] (r2.keep0 (by first | exact Keep.refl [] w2 | exact (Keep.refl [] w2).alloc _)) H1.out.ok rfl (src_one ?_ ?_)).mono ?_; (first | exact hq1 | exact hq0 | exact (cell_of_row _ _ 0 _ _ _ (heap_alloc_new w2 _)).trans rfl); (have h := hsz2; simp at h ⊢; omega); rintro e w4 ⟨rfl, h4, hk4⟩; have hk24 : Keep [m] w2 w4 := ((by first | exact Keep.refl [m] w2 | exact (Keep.refl [m] w2).alloc _ : Keep [m] w2 _)).trans hk4 (fun _ h => h) (fun _ h => .inl h); have kk4 : Keep [x, s, y, m] wb w4 := (kk2.mono (T := [x, s, y, m]) (by simp)).trans hk24 (fun _ h => h) (by simp); have hS4 := HB.out w4 _ kk4 (by have := H0.out.dp.lt; have := H0.out.rd.lt; simp; omega)))
  all_goals
    have q1 : Both w4 x s y m (d.write i [c]).1 := ⟨h2.keepRefDisk r2 hk24, h4, write_good H1.out.ok i _⟩
    have q2 : Keep [x, s, y, m] w w4 := (KB.out.mono (T := [x, s, y, m]) (by simp)).trans kk4 (fun _ h => h) (fun _ h => .inl h)
    have Q1 := Lib.hid q1
    have Q2 := Lib.hid q2
    clear q1 q2 hS2 hS4 h4 h2 r2 hsz2
    go_wp2
    go_ret
    exact ⟨by simp, Q1.out, Q2.out⟩
end Go.Proofs.Ytaldkgnpkeekhaa
