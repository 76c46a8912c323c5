/-
  The law's live question (law22.alive): it answers true.
-/
import Derived.Test.YtaldkgnpkeekhaaLawA
namespace Go.Proofs.Ytaldkgnpkeekhaa
open Go.RowKit Go.MapKept

def f32 (z : Int) : List Int := List.replicate 32 z
def A0 : ADisk := ⟨4, [], [], -1, false⟩
def A1 : ADisk := ⟨4, [], [(2, f32 5)], -1, false⟩
def A2 : ADisk := ⟨4, [(2, f32 5)], [], -1, false⟩
def A3 : ADisk := ⟨4, [(2, f32 5)], [(3, f32 6)], -1, false⟩
def A4 : ADisk := ⟨4, [(2, f32 5)], [(2, f32 7), (3, f32 6)], -1, false⟩
def A5 : ADisk := ⟨4, [(2, f32 5)], [(2, f32 7), (3, f32 6)], 0, false⟩
def A6 : ADisk := ⟨4, [(2, f32 5)], [(2, f32 7), (3, f32 6)], 0, true⟩
def A7 : ADisk := ⟨4, [(2, f32 5), (3, f32 6)], [], -1, false⟩
theorem a1 : A0.write 2 (f32 5) = (A1, 0) := rfl
theorem a2 : A1.flush = (A2, 0) := rfl
theorem a3 : A2.write 3 (f32 6) = (A3, 0) := rfl
theorem a4 : A3.write 2 (f32 7) = (A4, 0) := rfl
theorem a4' : A4.write 4 (f32 1) = (A4, 1) := rfl
theorem a5 : A4.arm 0 = A5 := rfl
theorem a6 : A5.flush = (A6, 14) := rfl
theorem a7 : A6.restart 2 = A7 := rfl
theorem g0 : A0.Good := new_good (by decide)
theorem g1 : A1.Good := by have := write_good g0 2 (f32 5); rwa [a1] at this
theorem g2 : A2.Good := by have := flush_good g1; rwa [a2] at this
theorem g3 : A3.Good := by have := write_good g2 3 (f32 6); rwa [a3] at this
theorem g4 : A4.Good := by have := write_good g3 2 (f32 7); rwa [a4] at this
theorem g5 : A5.Good := by have := arm_good g4 0 (by decide); rwa [a5] at this
theorem g6 : A6.Good := by have := flush_good g5; rwa [a6] at this
theorem g7 : A7.Good := by have := restart_good g6 2; rwa [a7] at this

theorem Keep.own {w a b : World} {S : List Nat} (h : Keep [] w a) (k : Keep S a b) (hS : ∀ x ∈ S, w.heap.size ≤ x) : Keep [] w b := h.trans k (fun _ h => h) (fun x hx => .inr (hS x hx))

/-- a disk of the call's own, and all that was there as it was -/
structure Own (w W : World) (x s y : Nat) (d : ADisk) : Prop where
  dp : DiskP W x s y d
  kp : Keep [] w W
  own : ∀ b ∈ [x, s, y], w.heap.size ≤ b
theorem Own.next {w W W' : World} {x s y : Nat} {d d' : ADisk} {S : List Nat} (h : Own w W x s y d) (h' : DiskP W' x s y d') (k : Keep S W W') (hS : ∀ b ∈ S, b ∈ [x, s, y]) : Own w W' x s y d' :=
  ⟨h', h.kp.own k fun b hb => h.own b (hS b hb), h.own⟩
theorem Own.keep0 {w W W' : World} {x s y : Nat} {d : ADisk} (h : Own w W x s y d) (k : Keep [] W W') : Own w W' x s y d := h.next (h.dp.keep0 k) k (by simp)

theorem own_New (w : World) (n : Int) (h1 : 1 ≤ n) (h2 : n ≤ 65536) :
    Calls Try.prog 9 #[.int .i64 n] w fun e w' => ∃ x s y, e = .returned (.tuple #[.pointer (some ⟨x, 0, none⟩), .int .i64 0]) ∧ Own w w' x s y ⟨n, [], [], -1, false⟩ :=
  (disk_New w n h1 h2).mono fun _ _ ⟨a, b, c⟩ => ⟨_, _, _, a, b, c, by simp⟩
/-- a write of 32 bytes, with its bytes made ahead -/
theorem own_Write (w W : World) (x s y : Nat) (d d' : ADisk) (i r : Int) (z : Int) (v : Value) (h : Own w W x s y d) (g : d.Good) (hv : W.ownsRow 0 5 1 v 32 (bytes (List.replicate 32 z))) (e : d.write i (f32 z) = (d', r)) :
    Calls Try.prog 20 #[.pointer (some ⟨x, 0, none⟩), .int .i64 i, v] W fun e w' => e = .returned (.int .i64 r) ∧ Own w w' x s y d' := by
  obtain ⟨a, c, rfl, hs, _⟩ := own_src hv h.dp.block
  refine (Disk_Write W x s y d i a 32 c (f32 z) h.dp g.toOk (by simp [f32]) hs).mono fun e' w' ⟨h1, h2, h3⟩ => ?_
  rw [e] at h1 h2
  exact ⟨h1, h.next h2 h3 (fun _ h => h)⟩
theorem own_full (w W : World) (x s y : Nat) (d : ADisk) (z : Int) (h : Own w W x s y d) :
    Calls Try.prog 21 #[.int .u8 z] W fun e w' => ∃ v, e = .returned v ∧ w'.ownsRow 0 5 1 v 32 (bytes (List.replicate 32 z)) ∧ Own w w' x s y d :=
  (law22_full W z).mono fun _ _ ⟨v, h1, h2, h3⟩ => ⟨v, h1, ownsRow_mono h2 (Nat.zero_le _), h.keep0 h3⟩
theorem own_Flush (w W : World) (x s y : Nat) (d d' : ADisk) (r : Int) (h : Own w W x s y d) (g : d.Good) (e : d.flush = (d', r)) :
    Calls Try.prog 22 #[.pointer (some ⟨x, 0, none⟩)] W fun e w' => e = .returned (.int .i64 r) ∧ Own w w' x s y d' := by
  refine (Disk_Flush W x s y d h.dp g.toOk).mono fun e' w' ⟨h1, h2, h3⟩ => ?_
  rw [e] at h1 h2
  exact ⟨h1, h.next h2 h3 (fun _ h => h)⟩
theorem own_Arm (w W : World) (x s y : Nat) (d d' : ADisk) (n : Int) (h : Own w W x s y d) (e : d.arm n = d') :
    Calls Try.prog 18 #[.pointer (some ⟨x, 0, none⟩), .int .i64 n] W fun e w' => e = .returned (.tuple #[]) ∧ Own w w' x s y d' := by
  refine (Disk_Arm W x s y d h.dp n).mono fun e' w' ⟨h1, h2, h3⟩ => ?_
  rw [e] at h2
  exact ⟨h1, h.next h2 h3 (by simp)⟩
theorem own_Restart (w W : World) (x s y : Nat) (d d' : ADisk) (q : Int) (h : Own w W x s y d) (g : d.Good) (h0 : 0 ≤ q) (h1 : q ≤ 18446744073709551615) (e : d.restart q = d') :
    Calls Try.prog 19 #[.pointer (some ⟨x, 0, none⟩), .int .u64 q] W fun e w' => e = .returned (.tuple #[]) ∧ Own w w' x s y d' := by
  refine (Disk_Restart W x s y d q h.dp g.toOk g.way_len h0 h1).mono fun e' w' ⟨h1, h2, h3⟩ => ?_
  rw [e] at h2
  exact ⟨h1, h.next h2 h3 (fun _ h => h)⟩
theorem own_Read (w W : World) (x s y : Nat) (d : ADisk) (i : Int) (l : List Int) (n : Nat) (hn : n = l.length) (r : Int) (h : Own w W x s y d) (g : d.Good) (e1 : d.wrong i = r) (e2 : l = if d.wrong i = 0 then d.at i else []) :
    Calls Try.prog 12 #[.pointer (some ⟨x, 0, none⟩), .int .i64 i] W fun e w' => ∃ v, e = .returned (.tuple #[v, .int .i64 r]) ∧ w'.ownsRow 0 5 1 v n (bytes l) ∧ Keep [] W w' ∧ Own w w' x s y d := by
  subst hn
  refine (Disk_Read W x s y d h.dp g i).mono fun e' w' ⟨v, h1, ⟨l', h2, h3⟩, h4⟩ => ⟨v, ?_, ?_, h4, h.keep0 h4⟩
  · rw [h1, e1]
  · rw [e2, ← h2]; exact h3

def Lives (w : World) (e : Ending) (w' : World) : Prop := e = .returned (.bool true) ∧ Keep [] w w'

set_option maxRecDepth 100000 in
set_option maxHeartbeats 2000000 in
theorem law22_alive (w : World) : Calls Try.prog 8 #[] w (Lives w) := by
  go_enter Try.func8, Try.ntmps8
  go_wp2_with fail
  refine (own_New w 4 (by decide) (by decide)).mono ?_; rintro e w1 ⟨x, s, y, rfl, h1⟩
  go_wp2_with fail
  refine (own_full w w1 x s y _ 5 h1).mono ?_; rintro e w2 ⟨v2, rfl, r2, h2⟩
  go_wp2_with fail
  refine (own_Write w w2 x s y A0 A1 2 0 5 v2 h2 g0 r2 a1).mono ?_; rintro e w3 ⟨rfl, h3⟩
  go_wp2_with fail
  refine (own_Flush w w3 x s y A1 A2 0 h3 g1 a2).mono ?_; rintro e w4 ⟨rfl, h4⟩
  go_wp2_with fail
  refine (own_full w w4 x s y _ 6 h4).mono ?_; rintro e w5 ⟨v5, rfl, r5, h5⟩
  go_wp2_with fail
  refine (own_Write w w5 x s y A2 A3 3 0 6 v5 h5 g2 r5 a3).mono ?_; rintro e w6 ⟨rfl, h6⟩
  go_wp2_with fail
  refine (own_full w w6 x s y _ 7 h6).mono ?_; rintro e w7 ⟨v7, rfl, r7, h7⟩
  go_wp2_with fail
  refine (own_Write w w7 x s y A3 A4 2 0 7 v7 h7 g3 r7 a4).mono ?_; rintro e w8 ⟨rfl, h8⟩
  go_wp2_with fail
  refine (own_full w w8 x s y _ 1 h8).mono ?_; rintro e w9 ⟨v9, rfl, r9, h9⟩
  go_wp2_with fail
  refine (own_Write w w9 x s y A4 A4 4 1 1 v9 h9 g4 r9 a4').mono ?_; rintro e w10 ⟨rfl, h10⟩
  go_wp2_with fail
  refine (own_Arm w w10 x s y A4 A5 0 h10 a5).mono ?_; rintro e w11 ⟨rfl, h11⟩
  go_wp2_with fail
  refine (own_Flush w w11 x s y A5 A6 14 h11 g5 a6).mono ?_; rintro e w12 ⟨rfl, h12⟩
  go_wp2_with fail
  refine (own_Read w w12 x s y A6 2 [] 0 rfl 14 h12 g6 rfl rfl).mono ?_; rintro e w13 ⟨v13, rfl, _, _, h13⟩
  go_wp2_with fail
  refine (Disk_Waiting w13 x s y A6 h13.dp).mono ?_; rintro e w14 ⟨rfl, rfl⟩
  go_wp2_with fail
  refine (Disk_Down w13 x s y A6 h13.dp).mono ?_; rintro e w14 ⟨rfl, rfl⟩
  go_wp2_with fail
  refine (own_Restart w w13 x s y A6 A7 2 h13 g6 (by decide) (by decide) a7).mono ?_; rintro e w14 ⟨rfl, h14⟩
  go_wp2_with fail
  refine (own_Read w w14 x s y A7 2 (f32 5) 32 rfl 0 h14 g7 rfl rfl).mono ?_; rintro e w15 ⟨v15, rfl, r15, k15, h15⟩
  go_wp2_with fail
  refine (own_Read w w15 x s y A7 3 (f32 6) 32 rfl 0 h15 g7 rfl rfl).mono ?_; rintro e w16 ⟨v16, rfl, r16, k16, h16⟩
  obtain ⟨a15, c15, rfl, s15, _⟩ := own_cells (own_keep0 r15 k16)
  obtain ⟨a16, c16, rfl, s16, _⟩ := own_cells r16
  obtain ⟨b15, rfl, q15⟩ := s15 9 (.int .u8 5) rfl
  obtain ⟨b16, rfl, q16⟩ := s16 31 (.int .u8 6) rfl
  clear s15 s16 r15 r16 h1 h2 h3 h4 h5 h6 h7 h8 h9 h10 h11 h12 h13 h14 h15 r2 r5 r7 r9 k15 k16
  go_wp2_with fail
  refine (Disk_Down w16 x s y A7 h16.dp).mono ?_; rintro e w17 ⟨rfl, rfl⟩
  go_wp2_with fail
  refine (Disk_Sectors w16 x s y A7 h16.dp).mono ?_; rintro e w17 ⟨rfl, rfl⟩
  go_wp2_with fail
  go_ret
  exact ⟨rfl, h16.kp⟩
end Go.Proofs.Ytaldkgnpkeekhaa
