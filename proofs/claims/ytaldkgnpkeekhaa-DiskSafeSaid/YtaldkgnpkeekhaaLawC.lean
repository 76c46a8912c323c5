/-
  The law DiskPlays: its walk.
-/
import Derived.Test.YtaldkgnpkeekhaaLawB
namespace Go.Proofs.Ytaldkgnpkeekhaa
open Go.RowKit Go.MapKept

theorem Disk_wrong_nil (w : World) (i : Int) : Calls Try.prog 42 #[.pointer none, .int .i64 i] w fun e w' => e = .returned (.int .i64 1) ∧ w = w' := by
  go_enter Try.func42, Try.ntmps42
  go_wp2
  go_ret
  exact ⟨rfl, rfl⟩
theorem Disk_Read_nil (w : World) (i : Int) : Calls Try.prog 12 #[.pointer none, .int .i64 i] w fun e w' => e = .returned (.tuple #[.slice none 0 0, .int .i64 1]) ∧ w = w' := by
  go_enter Try.func12, Try.ntmps12
  go_wp2_with (go_at_call 42; refine (Disk_wrong_nil _ _).mono ?_; rintro e w' ⟨rfl, rfl⟩)
  go_ret2
  exact ⟨rfl, rfl⟩
theorem Disk_Write_nil (w : World) (i : Int) (v : Value) : Calls Try.prog 20 #[.pointer none, .int .i64 i, v] w fun e w' => e = .returned (.int .i64 1) ∧ w = w' := by
  go_enter Try.func20, Try.ntmps20
  go_wp2_with (go_at_call 42; refine (Disk_wrong_nil _ _).mono ?_; rintro e w' ⟨rfl, rfl⟩)
  go_ret
  exact ⟨rfl, rfl⟩
theorem Disk_Flush_nil (w : World) : Calls Try.prog 22 #[.pointer none] w fun e w' => e = .returned (.int .i64 1) ∧ w = w' := by
  go_enter Try.func22, Try.ntmps22
  go_wp2
  go_ret
  exact ⟨rfl, rfl⟩
theorem Disk_Restart_nil (w : World) (q : Int) : Calls Try.prog 19 #[.pointer none, .int .u64 q] w fun e w' => e = .returned (.tuple #[]) ∧ w = w' := by
  go_enter Try.func19, Try.ntmps19
  go_wp2
  (try simp only [Exit.inBlock, Exit.then]); refine bodyPost_ret (results_none rfl _ _ _) rfl ?_
  exact ⟨rfl, rfl⟩

theorem DiskP.drewN' {w : World} {x s y : Nat} {d : ADisk} (h : DiskP w x s y d) {n : Nat} : DiskP (w.drewN n) x s y d := ⟨h.obj, h.safe, h.way, h.ne⟩
structure DAct where
  kind : Int
  i : Int
  c : Int
  keep : Int
structure DAct.Wf (a : DAct) : Prop where
  k0 : 0 ≤ a.kind
  k1 : a.kind ≤ 255
  i1 : a.i ≤ 9223372036854775807
  q : 0 ≤ a.keep ∧ a.keep ≤ 18446744073709551615
def actCells (a : DAct) : List Value := [.int .u8 a.kind, .int .i64 a.i, .int .u8 a.c, .int .u64 a.keep]

theorem law22_step (w : World) (x s y m : Nat) (d : ADisk) (a : DAct) (h : Both w x s y m d) (hw : a.Wf) :
    Calls Try.prog 11 #[.pointer (some ⟨x, 0, none⟩), .pointer (some ⟨m, 0, none⟩), .agg #[.int .u8 a.kind, .int .i64 a.i, .int .u8 a.c, .int .u64 a.keep]] w (Stepped w x s y m (d.act a.kind a.i a.c a.keep)) := by
  unfold ADisk.act
  split
  · exact step_flush w x s y m d _ _ _ _ h hw.k0 hw.k1 ‹_›
  · split
    · exact step_read w x s y m d _ _ _ _ h hw.k0 hw.k1 ‹_›
    · split
      · exact step_arm w x s y m d _ _ _ _ h hw.k0 hw.k1 hw.i1 ‹_›
      · split
        · exact step_restart w x s y m d _ _ _ _ h hw.k0 hw.k1 hw.q ‹_›
        · split
          · exact step_short w x s y m d _ _ _ _ h hw.k0 hw.k1 ‹_›
          · exact step_write w x s y m d _ _ _ _ h hw.k0 hw.k1 (by omega)

theorem RefDisk.fields {w : World} {m : Nat} {d : ADisk} (h : RefDisk w m d) : ∃ a c, w.cell? ⟨m, 2, none⟩ = some (.slice a d.way.length c) ∧ w.cell? ⟨m, 4, none⟩ = some (.bool d.dn) := by
  obtain ⟨sv, yv, Ls, Ly, h⟩ := h
  obtain ⟨a, cap, hv, _⟩ := h.way.row.at
  have hc := (cells_of h.obj).1
  simp only [Sl.val, Value.slice.injEq] at hv
  obtain ⟨h1, h2, h3⟩ := hv
  refine ⟨yv.a, yv.c, ?_, by rw [hc]; rfl⟩
  rw [hc, ← h.way.length, ← h2]; rfl
theorem act_n (d : ADisk) (k i c q : Int) : (d.act k i c q).n = d.n := by
  unfold ADisk.act ADisk.flush ADisk.arm ADisk.restart ADisk.write
  repeat (first | rfl | exact spend_n d | split)

set_option maxRecDepth 100000 in
set_option maxHeartbeats 1000000 in
theorem plays_many (w : World) (n : Int) (a : Option Addr) (len cap : Nat) (h : 100 < len) (hl : len ≤ maxLen) :
    Calls Try.prog 3 #[.int .i64 n, .slice a len cap] w (Lives w) := by
  have hl' : len ≤ 9223372036854775807 := hl
  clear hl
  go_enter Try.func3, Try.ntmps3
  go_wp2_with (go_at_call 8; refine (law22_alive _).mono ?_; rintro e w' ⟨rfl, hk⟩)
  go_ret
  exact ⟨rfl, hk⟩
set_option maxRecDepth 100000 in
set_option maxHeartbeats 1000000 in
theorem plays_none (w : World) (n : Int) (a : Option Addr) (len cap : Nat) (h : len ≤ 100) (hn : n < 1 ∨ 65536 < n) :
    Calls Try.prog 3 #[.int .i64 n, .slice a len cap] w (Lives w) := by
  rcases hn with hn | hn
  · go_enter Try.func3, Try.ntmps3
    go_wp2_with (first
      | (go_at_call 9; refine (disk_New_no _ n (.inl hn)).mono ?_; rintro e w' ⟨rfl, rfl⟩)
      | (go_at_call 8; refine (law22_alive _).mono ?_; rintro e w' ⟨rfl, hk⟩))
    go_ret
    exact ⟨rfl, hk⟩
  · have hn1 : ¬ n < 1 := by omega
    go_enter Try.func3, Try.ntmps3
    go_wp2_with (first
      | (go_at_call 9; refine (disk_New_no _ n (.inr hn)).mono ?_; rintro e w' ⟨rfl, rfl⟩)
      | (go_at_call 8; refine (law22_alive _).mono ?_; rintro e w' ⟨rfl, hk⟩))
    go_ret
    exact ⟨rfl, hk⟩

set_option maxRecDepth 100000 in
set_option maxHeartbeats 4000000 in
theorem plays_main (w : World) (n : Int) (a : Option Addr) (cap : Nat) (acts : List DAct) (h : acts.length ≤ 100) (h1 : 1 ≤ n) (h2 : n ≤ 65536) (hw : ∀ x ∈ acts, x.Wf) (hs : Src w a (flat actCells acts) []) :
    Calls Try.prog 3 #[.int .i64 n, .slice a acts.length cap] w (Lives w) := by
  have hn1 : ¬ n < 1 := by omega
  go_enter Try.func3, Try.ntmps3
  go_wp2_with fail
  refine (own_New w n h1 h2).mono ?_; rintro e w1 ⟨x, s, y, rfl, ho⟩
  go_wp2_with fail
  refine (ref22_Begin w1 n).mono ?_; rintro e w2 ⟨rfl, hr, hk2⟩
  have HB : Hid (Both w2 x s y w1.heap.size ⟨n, [], [], -1, false⟩) := ⟨ho.dp.keep0 hk2, hr.disk, new_good h2⟩
  have HK : Hid (Keep [] w w2) := ho.kp.then hk2
  have HX : Hid (∀ b ∈ [x, s, y, w1.heap.size], w.heap.size ≤ b) := by
    intro b hb
    have := ho.own
    have := ho.kp.size
    simp at hb this
    rcases hb with rfl | rfl | rfl | rfl <;> simp_all
  obtain ⟨m, hm⟩ : ∃ m, m = w1.heap.size := ⟨_, rfl⟩
  rw [← hm] at HB HX ⊢
  clear hr hk2 ho hm
  have HS := Lib.hid hs
  have HW := Lib.hid hw
  clear hs hw
  go_wp2
  go_loopw [8] (fun i wr => ∃ (k : Nat) (d : ADisk), k ≤ acts.length ∧ i = .int .i64 k ∧ Both wr x s y m d ∧ Hid (d.n = n) ∧ Keep [] w wr) (fun i _ => acts.length - (vInt i).toNat)
  case atStart => exact ⟨0, _, Nat.zero_le _, rfl, HB, rfl, HK⟩
  case round =>
    obtain ⟨k, d, hk, rfl, hb, HN, hkp⟩ := hrel
    by_cases hlt : k < acts.length
    · have hwf := HW.out _ (List.getElem_mem hlt)
      have hsr := HS.out.keep hkp (by simp)
      have hlen4 := flat_length (f := actCells) (k := 4) (fun _ => rfl) acts
      obtain ⟨ab, ao, rfl, _⟩ := hsr.flat (by omega)
      have HF : Hid (∀ W, Keep [] w W → W.cell? ⟨ab, ao + k * 4, none⟩ = some (.int .u8 acts[k].kind) ∧ W.cell? ⟨ab, ao + k * 4 + 1, none⟩ = some (.int .i64 acts[k].i) ∧
          W.cell? ⟨ab, ao + k * 4 + 2, none⟩ = some (.int .u8 acts[k].c) ∧ W.cell? ⟨ab, ao + k * 4 + 3, none⟩ = some (.int .u64 acts[k].keep)) := by
        intro W hW
        obtain ⟨b', o', he, hc⟩ := (HS.out.keep hW (by simp)).flat (by omega)
        cases he
        have g := fun c (hc4 : c < 4) => flat_get (f := actCells) (k := 4) (fun _ => rfl) acts k c hlt hc4
        exact ⟨hc (k * 4 + 0) _ (g 0 (by omega)), hc (k * 4 + 1) _ (g 1 (by omega)), hc (k * 4 + 2) _ (g 2 (by omega)), hc (k * 4 + 3) _ (g 3 (by omega))⟩
      obtain ⟨f0, f1, f2, f3⟩ := HF.out wr hkp
      clear hsr hlen4
      go_wp2_with (first
        | (go_at_call 11; refine (law22_step wr x s y m d acts[k] hb hwf).mono ?_; rintro e w3 ⟨rfl, hb3, hk3⟩; have kk3 : Keep [] w w3 := hkp.own hk3 HX.out; obtain ⟨g0, g1, g2, g3⟩ := HF.out w3 kk3; clear f0 f1 f2 f3)
        | (go_at_call 12; refine (Disk_Read w3 x s y _ hb3.dp hb3.ok acts[k].i).mono ?_; rintro e w4 ⟨v4, rfl, ⟨l4, hl4, hv4⟩, hk4⟩; have kk4 := kk3.then hk4; obtain ⟨e0, e1, e2, e3⟩ := HF.out w4 kk4; obtain ⟨a4, c4, rfl, hs4, hm4⟩ := own_src hv4 (S := []) (by simp); have HL4 := Lib.hid hl4; clear hl4 g0 g1 g2 g3)
        | (go_at_call 13; refine (ref22_Read w4 m _ (hb3.rd.keep0 hk4) hb3.ok acts[k].i).mono ?_; rintro e w5 ⟨v5, rfl, ⟨l5, hl5, hv5⟩, hk5⟩; obtain ⟨a5, c5, rfl, hs5, hm5⟩ := own_src hv5 (S := []) (by simp); obtain rfl : l4 = l5 := HL4.out.trans hl5.symm; clear hl5)
        | (go_at_call 14; refine (ref03_Same w5 a4 a5 c4 c5 l4.length l4.length l4 l4 rfl rfl hm4 (hs4.keep hk5 (by simp)) hs5).mono ?_; rintro e w6 ⟨q, rfl, rfl⟩))
      generalize hd' : d.act acts[k].kind acts[k].i acts[k].c acts[k].keep = d' at *
      have HD' := Lib.hid hd'
      generalize d'.wrong acts[k].i = code at *
      have hb6 : Both (w5.drewN q) x s y m d' := (hb3.keep0 hk4).keep0 (hk5.drewN q)
      have kk6 : Keep [] w (w5.drewN q) := (kk3.then hk4).then (hk5.drewN q)
      have HN' : Hid (d'.n = n) := by unfold Hid; rw [← HD'.out, act_n]; exact HN.out
      clear hd' hb3 hb hk4 hk5 hk3 kk3 kk4 hkp hs4 hs5 hv4 hv5 e0 e1 e2 e3
      generalize w5.drewN q = w6 at *
      obtain ⟨ya, yc, hm2, hm4'⟩ := hb6.rd.fields
      have HB6 := Lib.hid hb6
      clear hb6
      have hnn : (d'.n != n) = false := by rw [HN'.out]; simp
      go_quiet ((first
        | (go_at_call 15; exact Calls.quiet_of_same ((Disk_Down _ x s y d' HB6.out.dp.drewN').mono fun _ _ ⟨a, b⟩ => ⟨a, b.symm⟩))
        | (go_at_call 16; exact Calls.quiet_of_same ((Disk_Waiting _ x s y d' HB6.out.dp.drewN').mono fun _ _ ⟨a, b⟩ => ⟨a, b.symm⟩))
        | (go_at_call 17; exact Calls.quiet_of_same ((Disk_Sectors _ x s y d' HB6.out.dp.drewN').mono fun _ _ ⟨a, b⟩ => ⟨a, b.symm⟩))))
      go_wp2
      go_roundw
      case rel => exact ⟨k + 1, d', by omega, by go_num, HB6.out.keep0 ((Keep.refl [] w6).drewN _), HN', kk6.drewN _⟩
      case measure => simp only [vInt]; omega
    · have HKP := Lib.hid hkp
      clear hb hkp
      go_wp2_with (first
        | (go_at_call 18; refine (Disk_Arm_nil _ _).mono ?_; rintro e w3 ⟨rfl, rfl⟩)
        | (go_at_call 19; refine (Disk_Restart_nil _ _).mono ?_; rintro e w3 ⟨rfl, rfl⟩)
        | (go_at_call 12; refine (Disk_Read_nil _ _).mono ?_; rintro e w3 ⟨rfl, rfl⟩)
        | (go_at_call 8; refine (law22_alive wr).mono ?_; rintro e w3 ⟨rfl, hk3⟩)
        | (go_at_call 21; refine (law22_full w3 _).mono ?_; rintro e w4 ⟨v4, rfl, _, hk4⟩)
        | (go_at_call 20; refine (Disk_Write_nil _ _ _).mono ?_; rintro e w5 ⟨rfl, rfl⟩)
        | (go_at_call 22; refine (Disk_Flush_nil _).mono ?_; rintro e w5 ⟨rfl, rfl⟩)
        | (go_at_call 15; refine (Disk_Down_nil _).mono ?_; rintro e w5 ⟨rfl, rfl⟩)
        | (go_at_call 17; refine (Disk_Sectors_nil _).mono ?_; rintro e w5 ⟨rfl, rfl⟩)
        | (go_at_call 16; refine (Disk_Waiting_nil _).mono ?_; rintro e w5 ⟨rfl, rfl⟩))
      go_ret
      exact ⟨rfl, (HKP.out.then hk3).then hk4⟩
end Go.Proofs.Ytaldkgnpkeekhaa
