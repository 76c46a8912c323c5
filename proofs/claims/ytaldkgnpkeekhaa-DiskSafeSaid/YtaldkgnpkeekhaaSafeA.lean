/-
  The law DiskSafe: its walk.
-/
import Derived.Test.YtaldkgnpkeekhaaSafe
namespace Go.Proofs.Ytaldkgnpkeekhaa
open Go.RowKit Go.MapKept

/-- the cells of one act of a list that came in, in whatever world keeps it -/
theorem acts_at {w : World} {a : Option Addr} {acts : List DAct} (hs : Src w a (flat actCells acts) []) {k : Nat} (hlt : k < acts.length) :
    ∃ ab ao, a = some ⟨ab, ao, none⟩ ∧ ab < w.heap.size ∧ ∀ W, Keep [] w W → W.cell? ⟨ab, ao + k * 4, none⟩ = some (.int .u8 acts[k].kind) ∧ W.cell? ⟨ab, ao + k * 4 + 1, none⟩ = some (.int .i64 acts[k].i) ∧
      W.cell? ⟨ab, ao + k * 4 + 2, none⟩ = some (.int .u8 acts[k].c) ∧ W.cell? ⟨ab, ao + k * 4 + 3, none⟩ = some (.int .u64 acts[k].keep) := by
  have hlen4 := flat_length (f := actCells) (k := 4) (fun _ => rfl) acts
  obtain ⟨ab, ao, rfl, hc⟩ := hs.flat (by omega)
  have g := fun c (hc4 : c < 4) => flat_get (f := actCells) (k := 4) (fun _ => rfl) acts k c hlt hc4
  refine ⟨ab, ao, rfl, block_lt_of_cell (hc (k * 4 + 0) _ (g 0 (by omega))), fun W hW => ?_⟩
  obtain ⟨b', o', he, hc'⟩ := (hs.keep hW (by simp)).flat (by omega)
  cases he
  exact ⟨hc' (k * 4 + 0) _ (g 0 (by omega)), hc' (k * 4 + 1) _ (g 1 (by omega)), hc' (k * 4 + 2) _ (g 2 (by omega)), hc' (k * 4 + 3) _ (g 3 (by omega))⟩

theorem write_n (d : ADisk) (i : Int) (l : List Int) : (d.write i l).1.n = d.n := by
  by_cases hz : (d.write i l).2 = 0
  · obtain ⟨_, _, _, h4⟩ := write_code hz
    rw [h4]; simp only [spend_n]
  · exact (write_fail hz).2.2
theorem own_Write' (w W : World) (x s y : Nat) (d : ADisk) (i : Int) (z : Int) (a : Option Addr) (c : Nat) (h : Own w W x s y d) (g : d.Good) (hs : Src W a (bytes (f32 z)) [x, s, y]) :
    Calls Try.prog 20 #[.pointer (some ⟨x, 0, none⟩), .int .i64 i, .slice a 32 c] W fun e w' => e = .returned (.int .i64 (d.write i (f32 z)).2) ∧ Own w w' x s y (d.write i (f32 z)).1 ∧ Keep [x, s, y] W w' :=
  (Disk_Write W x s y d i a 32 c (f32 z) h.dp g.toOk (by simp [f32]) hs).mono fun _ _ ⟨h1, h2, h3⟩ => ⟨h1, h.next h2 h3 (fun _ h => h), h3⟩

theorem own_WriteE (w W : World) (x s y : Nat) (d d' : ADisk) (i : Int) (z r : Int) (a : Option Addr) (c : Nat) (h : Own w W x s y d) (g : d.Good) (hs : Src W a (bytes (f32 z)) [x, s, y]) (e1 : (d.write i (f32 z)).1 = d') (e2 : (d.write i (f32 z)).2 = r) :
    Calls Try.prog 20 #[.pointer (some ⟨x, 0, none⟩), .int .i64 i, .slice a 32 c] W fun e w' => e = .returned (.int .i64 r) ∧ Own w w' x s y d' ∧ Keep [x, s, y] W w' := by
  subst e1 e2; exact own_Write' w W x s y d i z a c h g hs

theorem own_RestartK (w W : World) (x s y : Nat) (d d' : ADisk) (q : Int) (h : Own w W x s y d) (g : d.Good) (h0 : 0 ≤ q ∧ q ≤ 18446744073709551615) (e : d.restart q = d') :
    Calls Try.prog 19 #[.pointer (some ⟨x, 0, none⟩), .int .u64 q] W fun e w' => e = .returned (.tuple #[]) ∧ Own w w' x s y d' ∧ Keep [x, s, y] W w' := by
  refine (Disk_Restart W x s y d q h.dp g.toOk g.way_len h0.1 h0.2).mono fun e' w' ⟨h1, h2, h3⟩ => ?_
  rw [e] at h2
  exact ⟨h1, h.next h2 h3 (fun _ h => h), h3⟩
theorem own_Same32 (w : World) (a b : Option Addr) (c d : Nat) (l m : List Int) (r : Bool) (hn : l.length = 32) (hm : m.length = 32) (ha : Src w a (bytes l) []) (hb : Src w b (bytes m) []) (e : decide (l = m) = r) :
    Calls Try.prog 14 #[.slice a 32 c, .slice b 32 d] w fun e w' => ∃ q, e = .returned (.bool r) ∧ w.drewN q = w' := by
  subst e; exact ref03_Same w a b c d 32 32 l m hn.symm hm.symm (by decide) ha hb
theorem Arr.src {W : World} {B : Nat} {L : List Sl} {c : Nat → List Int} {i : Nat} (h : Arr W B L c i) {k : Nat} (hk : k < i) (hk8 : k < 8) : ∃ a cp, W.cell? ⟨B, k, none⟩ = some (.slice a 32 cp) ∧ Src W a (bytes (c k)) [] ∧ (c k).length = 32 := by
  obtain ⟨hk', h1, _, h2⟩ := h.cell hk8
  obtain ⟨a, cp, e, hs, _⟩ := own_src (S := []) (h.own k hk' hk) (by simp)
  simp only [Sl.val, Value.slice.injEq] at e
  obtain ⟨rfl, e2, rfl⟩ := e
  exact ⟨_, _, by rw [h1, e2], hs, by have := (h.own k hk' hk).1; simpa [bytes] using this⟩

def nils : List Sl := List.replicate 8 ⟨none, 0, 0⟩
theorem Own.keepArr {w W W' : World} {x s y B : Nat} {d : ADisk} (h : Own w W x s y d) (k : Keep [B] W W') (hB : x < B ∧ s < B ∧ y < B) (hw : w.heap.size ≤ B) : Own w W' x s y d :=
  ⟨h.dp.keep k (by simp; omega) (by simp; omega) (by simp; omega), h.kp.own k (by simpa using hw), h.own⟩
theorem upd_self (c : Nat → List Int) (k : Nat) : upd c k (c k) = c := by
  funext j; unfold upd; split
  · rename_i e; rw [e]
  · rfl
theorem Arr.noByte {W : World} {B : Nat} {L : List Sl} {c : Nat → List Int} {i : Nat} (h : Arr W B L c i) : ∀ b ∈ [B], ∀ cs fr, W.heap[b]? ≠ some (.cells cs 5 fr) := by
  intro b hb cs fr e
  obtain rfl : b = B := by simpa using hb
  rw [h.obj] at e; cases e

set_option maxRecDepth 100000 in
set_option maxHeartbeats 8000000 in
theorem safe_many (w : World) (a b : Option Addr) (n m c d : Nat) (q : Int) (h : 100 < n ∨ 100 < m) (hn : n ≤ maxLen) (hm : m ≤ maxLen) :
    Calls Try.prog 4 #[.slice a n c, .slice b m d, .int .u64 q] w (Lives w) := by
  have hn' : n ≤ 9223372036854775807 := hn
  have hm' : m ≤ 9223372036854775807 := hm
  clear hn hm
  by_cases h1 : 100 < n
  · clear h
    go_enter Try.func4, Try.ntmps4
    go_wp2_with (go_at_call 8; refine (law22_alive _).mono ?_; rintro e w' ⟨rfl, hk⟩)
    go_ret
    exact ⟨rfl, hk⟩
  · have h2 : 100 < m := by omega
    clear h
    go_enter Try.func4, Try.ntmps4
    go_wp2_with (go_at_call 8; refine (law22_alive _).mono ?_; rintro e w' ⟨rfl, hk⟩)
    go_ret
    exact ⟨rfl, hk⟩

set_option maxRecDepth 100000 in
set_option maxHeartbeats 8000000 in
theorem safe_main (w : World) (a b : Option Addr) (cA cB : Nat) (l more : List DAct) (q : Int) (h1 : l.length ≤ 100) (h2 : more.length ≤ 100) (hw1 : ∀ x ∈ l, x.Wf) (hs1 : Src w a (flat actCells l) []) (hs2 : Src w b (flat actCells more) [])
    (hq : 0 ≤ q ∧ q ≤ 18446744073709551615) :
    Calls Try.prog 4 #[.slice a l.length cA, .slice b more.length cB, .int .u64 q] w (Lives w) := by
  have HS1 := Lib.hid hs1
  have HS2 := Lib.hid hs2
  have HW := Lib.hid hw1
  have HQ := Lib.hid hq
  clear hs1 hs2 hw1 hq
  go_enter Try.func4, Try.ntmps4
  go_wp2_with fail
  refine (own_New w 8 (by decide) (by decide)).mono ?_; rintro e w1 ⟨x, s, y, rfl, ho⟩
  have HO1 := Lib.hid ho
  clear ho
  go_wp2
  go_loopw [9] (fun i wr => ∃ (k : Nat) (d : ADisk), k ≤ l.length ∧ i = .int .i64 k ∧ Own w wr x s y d ∧ d.Good ∧ Hid (d.n = 8)) (fun i _ => l.length - (vInt i).toNat)
  case atStart => exact ⟨0, _, Nat.zero_le _, rfl, HO1.out, new_good (by decide), rfl⟩
  case round =>
    obtain ⟨k, d, hk, rfl, ho, hg, HN⟩ := hrel
    by_cases hlt : k < l.length
    · have hwf := HW.out _ (List.getElem_mem hlt)
      obtain ⟨ab, ao, rfl, hab, hF⟩ := acts_at HS1.out hlt
      have HF := Lib.hid hF
      obtain ⟨f0, f1, f2, f3⟩ := hF wr ho.kp
      have k0 := hwf.k0
      have k1 := hwf.k1
      clear hF
      by_cases c4 : l[k].kind % 9 < 4
      · go_wp2
        have HO := Lib.hid ho
        have hgd := hg
        clear ho
        go_region_held3 (fun w' => w'.cell? ⟨ab, ao + k * 4 + 1, none⟩ = some (.int .i64 l[k].i) ∧ w'.cell? ⟨ab, ao + k * 4 + 2, none⟩ = some (.int .u8 l[k].c)) ((first | exact ⟨f1, f2⟩ | exact ⟨(HF.out _ kk1).2.1, (HF.out _ kk1).2.2.1⟩ | exact ⟨(HF.out _ ho2.kp).2.1, (HF.out _ ho2.kp).2.2.1⟩))
          (first
            | (go_at_call 21; refine (law22_full _ l[k].c).mono ?_; rintro e w1 ⟨v1, rfl, hv1, hk1⟩; have ho1 : Own w w1 x s y d := HO.out.keep0 ((Keep.refl [] wr).drew.then hk1); have kk1 : Keep [] w w1 := ho1.kp; obtain ⟨a1, c1, rfl, hsr, _⟩ := own_src hv1 ho1.dp.block)
            | (go_at_call 20; refine (own_Write' w w1 x s y d l[k].i l[k].c a1 c1 ho1 hgd hsr).mono ?_; rintro e w2 ⟨rfl, ho2, hk2⟩))
        all_goals
          go_wp2
          go_roundw
          case rel => exact ⟨k + 1, _, by omega, by go_num, ho2, write_good hgd _ _, by unfold Hid; rw [write_n]; exact HN.out⟩
          case measure => simp only [vInt]; omega
      · have nc4 : ¬ l[k].kind % 9 < 4 := c4
        by_cases e4 : l[k].kind % 9 = 4
        · have b4 : (l[k].kind % 9 == 4) = true := by simp [e4]
          clear c4 e4
          go_wp2_with (go_at_call 22; refine (own_Flush w wr x s y d d.flush.1 d.flush.2 ho hg rfl).mono ?_; rintro e w2 ⟨rfl, ho2⟩)
          go_roundw
          case rel => exact ⟨k + 1, _, by omega, by go_num, ho2, flush_good hg, by unfold Hid; rw [flush_n]; exact HN.out⟩
          case measure => simp only [vInt]; omega
        · have b4 : (l[k].kind % 9 == 4) = false := by simp [e4]
          clear c4 e4
          by_cases e6 : l[k].kind % 9 = 6
          · have b6 : (l[k].kind % 9 == 6) = true := by simp [e6]
            clear e6
            go_wp2_with (go_at_call 18; refine (own_Arm w wr x s y d _ l[k].i ho rfl).mono ?_; rintro e w2 ⟨rfl, ho2⟩)
            go_roundw
            case rel => exact ⟨k + 1, _, by omega, by go_num, ho2, arm_good hg _ hwf.i1, by unfold Hid ADisk.arm; split <;> exact HN.out⟩
            case measure => simp only [vInt]; omega
          · have b6 : (l[k].kind % 9 == 6) = false := by simp [e6]
            clear e6
            by_cases e7 : l[k].kind % 9 = 7
            · have b7 : (l[k].kind % 9 == 7) = true := by simp [e7]
              clear e7
              go_wp2_with (go_at_call 19; refine (own_Restart w wr x s y d _ l[k].keep ho hg hwf.q.1 hwf.q.2 rfl).mono ?_; rintro e w2 ⟨rfl, ho2⟩)
              go_roundw
              case rel => exact ⟨k + 1, _, by omega, by go_num, ho2, restart_good hg _, HN⟩
              case measure => simp only [vInt]; omega
            · have b7 : (l[k].kind % 9 == 7) = false := by simp [e7]
              clear e7
              go_wp2
              go_roundw
              case rel => exact ⟨k + 1, d, by omega, by go_num, ho, hg, HN⟩
              case measure => simp only [vInt]; omega
    · obtain rfl : k = l.length := by omega
      clear HW HO1
      go_wp2_with fail
      refine (own_Flush w wr x s y d d.flush.1 d.flush.2 ho hg rfl).mono ?_; rintro e w2 ⟨rfl, ho2⟩
      by_cases hz : d.flush.2 = 0
      · have hb : (d.flush.2 != 0) = false := by simp [hz]
        obtain ⟨hdn, hway, hnn⟩ := flush_done hz
        have hg2 := flush_good hg
        have hn8 : d.flush.1.n = 8 := hnn.trans HN.out
        generalize d.flush.1 = d1 at *
        have HZ : Hid (d1.dn = false ∧ d1.way = [] ∧ d1.n = 8 ∧ d1.Good) := ⟨hdn, hway, hn8, hg2⟩
        clear hz hdn hway hnn hn8 hg2 ho hg HN
        generalize d.flush.2 = r0 at *
        have HO := Lib.hid ho2
        have hsz2 := ho2.kp.size
        clear ho2
        go_wp2
        have hx := HO.out.dp.lt
        have ha0 : Arr ((w2.alloc (.cells #[.slice none 0 0, .slice none 0 0, .slice none 0 0, .slice none 0 0, .slice none 0 0, .slice none 0 0, .slice none 0 0, .slice none 0 0] 48)).alloc (.cells #[.slice none 0 0, .slice none 0 0, .slice none 0 0, .slice none 0 0, .slice none 0 0, .slice none 0 0, .slice none 0 0, .slice none 0 0] 48)) w2.heap.size nils (fun j => d1.at j) 0 ∧
            Arr ((w2.alloc (.cells #[.slice none 0 0, .slice none 0 0, .slice none 0 0, .slice none 0 0, .slice none 0 0, .slice none 0 0, .slice none 0 0, .slice none 0 0] 48)).alloc (.cells #[.slice none 0 0, .slice none 0 0, .slice none 0 0, .slice none 0 0, .slice none 0 0, .slice none 0 0, .slice none 0 0, .slice none 0 0] 48)) (w2.heap.size + 1) nils (fun j => d1.at j) 0 :=
          ⟨⟨heap_alloc2_old w2 _ _, rfl, fun _ _ h => by omega⟩, ⟨heap_alloc2_new w2 _ _, rfl, fun _ _ h => by omega⟩⟩
        have hO0 : Own w ((w2.alloc (.cells #[.slice none 0 0, .slice none 0 0, .slice none 0 0, .slice none 0 0, .slice none 0 0, .slice none 0 0, .slice none 0 0, .slice none 0 0] 48)).alloc (.cells #[.slice none 0 0, .slice none 0 0, .slice none 0 0, .slice none 0 0, .slice none 0 0, .slice none 0 0, .slice none 0 0, .slice none 0 0] 48)) x s y d1 :=
          HO.out.keep0 (((Keep.refl [] w2).alloc _).alloc _)
        obtain ⟨B, hB⟩ : ∃ B, B = w2.heap.size := ⟨_, rfl⟩
        rw [← hB] at ha0 hx hsz2 ⊢
        generalize (w2.alloc (.cells #[.slice none 0 0, .slice none 0 0, .slice none 0 0, .slice none 0 0, .slice none 0 0, .slice none 0 0, .slice none 0 0, .slice none 0 0] 48)).alloc (.cells #[.slice none 0 0, .slice none 0 0, .slice none 0 0, .slice none 0 0, .slice none 0 0, .slice none 0 0, .slice none 0 0, .slice none 0 0] 48) = w3 at *
        clear HO hB
        go_loopw [12] (fun i wr => ∃ (j : Nat) (L1 L2 : List Sl), j ≤ 8 ∧ i = .int .i64 j ∧ Own w wr x s y d1 ∧ Arr wr B L1 (fun j => d1.at j) j ∧ Arr wr (B + 1) L2 (fun j => d1.at j) j) (fun i _ => 8 - (vInt i).toNat)
        case atStart => exact ⟨0, nils, nils, by omega, rfl, hO0, ha0.1, ha0.2⟩
        case round =>
          obtain ⟨j, L1, L2, hj, rfl, ho, hA1, hA2⟩ := hrel
          by_cases hlt : j < 8
          · have hwr : d1.wrong j = 0 := by
              unfold ADisk.wrong; rw [HZ.out.1, if_neg (by simp), if_neg (by rw [HZ.out.2.2.1]; omega)]
            have hlen : 32 = (d1.at j).length := (ADisk.at_length HZ.out.2.2.2.toOk _).symm
            have HR := Lib.hid hwr
            have HL := Lib.hid hlen
            have HA1 := Lib.hid hA1
            have HA2 := Lib.hid hA2
            have HO := Lib.hid ho
            clear hwr hlen hA1 hA2 ho ha0 hO0
            go_wp2_with (go_at_call 12; refine (own_Read w wr x s y d1 j (d1.at j) 32 HL.out 0 HO.out HZ.out.2.2.2 HR.out (by rw [if_pos HR.out])).mono ?_; rintro e w4 ⟨v4, rfl, r4, k4, ho4⟩
                         obtain ⟨a4, c4, rfl, _⟩ := own_cells r4
                         obtain ⟨_, g1, g1f, _⟩ := (HA1.out.keep0 k4).cell hlt
                         obtain ⟨_, g2, g2f, _⟩ := (HA2.out.keep0 k4).cell hlt)
            go_roundw
            case rel =>
              have e1 := (HA1.out.keep0 k4).set (k := j) ⟨a4, 32, c4⟩ (d1.at j) hlt r4 (j + 1) (Or.inr ⟨by omega, by omega⟩)
              have e1' := e1.1
              rw [upd_self (fun j => d1.at j) j] at e1'
              have e2 := ((HA2.out.keep0 k4).keep e1.2 (by simp) (HA1.out.keep0 k4).noByte).set (k := j) ⟨a4, 32, c4⟩ (d1.at j) hlt (own_keep r4 e1.2 (HA1.out.keep0 k4).noByte) (j + 1) (Or.inr ⟨by omega, by omega⟩)
              have e2' := e2.1
              rw [upd_self (fun j => d1.at j) j] at e2'
              exact ⟨j + 1, _, _, by omega, by go_num, (ho4.keepArr e1.2 hx hsz2).keepArr e2.2 ⟨by omega, by omega, by omega⟩ (by omega), e1'.keep e2.2 (by simp) ((HA2.out.keep0 k4).keep e1.2 (by simp) (HA1.out.keep0 k4).noByte).noByte, e2'⟩
            case measure => simp only [vInt]; omega
          · obtain rfl : j = 8 := by omega
            rw [show ((8 : Nat) : Int) = 8 from rfl]
            have hl0 := Later.start HZ.out.2.2.2 HZ.out.2.2.1 HZ.out.2.1 (fun j => d1.at j)
            have HL0 := Lib.hid hl0
            have HA1 := Lib.hid hA1
            have HA2 := Lib.hid hA2
            have HO := Lib.hid ho
            clear hl0 hA1 hA2 ho ha0 hO0
            go_wp2
            go_loopw [15] (fun i wr => ∃ (k : Nat) (d : ADisk) (L2 : List Sl) (last : Nat → List Int), k ≤ more.length ∧ i = .int .i64 k ∧ Own w wr x s y d ∧ Arr wr B L1 (fun j => d1.at j) 8 ∧ Arr wr (B + 1) L2 last 8 ∧ Hid (Later d1 d last)) (fun i _ => more.length - (vInt i).toNat)
            case atStart => exact ⟨0, d1, L2, _, by omega, rfl, HO.out, HA1.out, HA2.out, HL0⟩
            case round =>
              clear HL0 HA1 HA2 HO
              obtain ⟨k, d, L2, last, hk, rfl, ho, hA1, hA2, HLT⟩ := hrel
              by_cases hlt : k < more.length
              · obtain ⟨ab, ao, rfl, hab, hF⟩ := acts_at HS2.out hlt
                have HF := Lib.hid hF
                obtain ⟨f0, f1, f2, f3⟩ := hF _ ho.kp
                clear hF
                have hgd := HLT.out.good
                have HO := Lib.hid ho
                have HA1 := Lib.hid hA1
                have HA2 := Lib.hid hA2
                clear ho hA1 hA2
                by_cases hz : (d.write more[k].i (f32 more[k].c)).2 = 0
                · obtain ⟨p0, p7⟩ := wrote_where HLT.out.n hz
                  obtain ⟨p, hp⟩ : ∃ p : Nat, more[k].i = (p : Int) := ⟨more[k].i.toNat, by omega⟩
                  rw [hp] at hz f1 p0 p7
                  have HF' : Hid (∀ W, Keep [] w W → W.cell? ⟨ab, ao + k * 4 + 1, none⟩ = some (.int .i64 p) ∧ W.cell? ⟨ab, ao + k * 4 + 2, none⟩ = some (.int .u8 more[k].c)) := fun W hW => by
                    have := HF.out W hW; rw [hp] at this; exact ⟨this.2.1, this.2.2.1⟩
                  have HL' := Lib.hid (HLT.out.wrote hz)
                  obtain ⟨d', hd'⟩ : ∃ d', d' = (d.write (p : Int) (f32 more[k].c)).1 := ⟨_, rfl⟩
                  rw [← hd'] at HL'
                  have HD' := Lib.hid hd'.symm
                  have HZ' := Lib.hid hz
                  have HP := Lib.hid (show p < 8 by omega)
                  have hp0 : decide ((p : Int) < 0) = false := by simp
                  have hp7 : decide (7 < (p : Int)) = false := by simp; omega
                  have hp8 : p < 8 := HP.out
                  have hp8' : (p : Int) < 8 := by omega
                  clear hz hd' HF hp HLT
                  generalize more[k].c = z at *
                  go_wp2
                  go_region_held3 (fun w' => w'.cell? ⟨ab, ao + k * 4 + 1, none⟩ = some (.int .i64 p) ∧ w'.cell? ⟨ab, ao + k * 4 + 2, none⟩ = some (.int .u8 z)) ((first | exact ⟨f1, f2⟩ | exact HF'.out _ kk1 | exact HF'.out _ ho2.kp))
                    (first
                      | (go_at_call 21; refine (law22_full _ z).mono ?_; rintro e w1 ⟨v1, rfl, hv1, hk1⟩; have ho1 : Own w w1 x s y d := HO.out.keep0 ((Keep.refl [] wr).drew.then hk1); have kk1 : Keep [] w w1 := ho1.kp; have kw1 : Keep [] wr w1 := (Keep.refl [] wr).drew.then hk1; obtain ⟨a1, c1, rfl, hsr, _⟩ := own_src hv1 ho1.dp.block)
                      | (go_at_call 20; refine (own_WriteE w w1 x s y d d' p z 0 a1 c1 ho1 hgd hsr HD'.out HZ'.out).mono ?_; rintro e w2 ⟨rfl, ho2, hk2⟩))
                  all_goals
                    have HA1' := Lib.hid ((HA1.out.keep0 kw1).keep hk2 (by have := HO.out.dp.lt; simp; omega) ho1.dp.block)
                    have HA2' := Lib.hid ((HA2.out.keep0 kw1).keep hk2 (by have := HO.out.dp.lt; simp; omega) ho1.dp.block)
                    obtain ⟨g0, g1⟩ := HF'.out _ ho2.kp
                    clear HA1 HA2 HO
                    go_wp2
                    go_region_held3 (fun w' => w'.cell? ⟨ab, ao + k * 4 + 1, none⟩ = some (.int .i64 p) ∧ w'.cell? ⟨ab, ao + k * 4 + 2, none⟩ = some (.int .u8 z)) ((first | exact ⟨g0, g1⟩ | exact HF'.out _ kk3 | exact HF'.out _ kk4))
                      ((go_at_call 21; refine (law22_full _ z).mono ?_; rintro e w3 ⟨v3, rfl, hv3, hk3⟩; have kw3 : Keep [] w2 w3 := (Keep.refl [] w2).drew.then hk3; have ho3 : Own w w3 x s y d' := ho2.keep0 kw3; have kk3 : Keep [] w w3 := ho3.kp; obtain ⟨a3, c3, rfl, _⟩ := own_cells hv3; obtain ⟨_, q1, q1f, _⟩ := (HA2'.out.keep0 kw3).cell HP.out; have hs3 := (HA2'.out.keep0 kw3).set (k := p) ⟨a3, 32, c3⟩ (f32 z) HP.out (ownsRow_mono hv3 (Nat.zero_le _)) 8 (Or.inl (Nat.le_refl _)); have kk4 : Keep [] w (w3.setCell ⟨B + 1, p, none⟩ (.slice a3 32 c3)) := kk3.own hs3.2 (by simp; omega)))
                    all_goals
                      go_wp2
                      go_roundw
                      case rel => exact ⟨k + 1, d', _, _, by omega, by go_num, ho3.keepArr hs3.2 (by omega) (by omega), (HA1'.out.keep0 kw3).keep hs3.2 (by simp) (HA2'.out.keep0 kw3).noByte, hs3.1, HL'⟩
                      case measure => simp only [vInt]; omega
                · have hr0 : ((d.write more[k].i (f32 more[k].c)).2 == 0) = false := by simp [hz]
                  have HL' := Lib.hid (HLT.out.fail hz)
                  clear hz HLT
                  generalize hd' : (d.write more[k].i (f32 more[k].c)).1 = d' at *
                  generalize hr' : (d.write more[k].i (f32 more[k].c)).2 = r' at *
                  have HD' := Lib.hid hd'
                  have HR' := Lib.hid hr'
                  clear hd' hr'
                  go_wp2
                  go_region_held3 (fun w' => w'.cell? ⟨ab, ao + k * 4 + 1, none⟩ = some (.int .i64 more[k].i) ∧ w'.cell? ⟨ab, ao + k * 4 + 2, none⟩ = some (.int .u8 more[k].c)) ((first | exact ⟨f1, f2⟩ | exact ⟨(HF.out _ kk1).2.1, (HF.out _ kk1).2.2.1⟩ | exact ⟨(HF.out _ ho2.kp).2.1, (HF.out _ ho2.kp).2.2.1⟩))
                    (first
                      | (go_at_call 21; refine (law22_full _ more[k].c).mono ?_; rintro e w1 ⟨v1, rfl, hv1, hk1⟩; have ho1 : Own w w1 x s y d := HO.out.keep0 ((Keep.refl [] wr).drew.then hk1); have kk1 : Keep [] w w1 := ho1.kp; have kw1 : Keep [] wr w1 := (Keep.refl [] wr).drew.then hk1; obtain ⟨a1, c1, rfl, hsr, _⟩ := own_src hv1 ho1.dp.block)
                      | (go_at_call 20; refine (own_WriteE w w1 x s y d d' more[k].i more[k].c r' a1 c1 ho1 hgd hsr HD'.out HR'.out).mono ?_; rintro e w2 ⟨rfl, ho2, hk2⟩))
                  all_goals
                    go_wp2
                    go_roundw
                    case rel =>
                      have hlt' := HO.out.dp.lt
                      exact ⟨k + 1, d', L2, last, by omega, by go_num, ho2, (HA1.out.keep0 kw1).keep hk2 (by simp; omega) ho1.dp.block, (HA2.out.keep0 kw1).keep hk2 (by simp; omega) ho1.dp.block, HL'⟩
                    case measure => simp only [vInt]; omega
              · obtain rfl : k = more.length := by omega
                have hgr := restart_good HLT.out.good q
                have haf := fun j hj => HLT.out.after HZ.out.2.1 q j hj
                have hnr : (d.restart q).n = 8 := HLT.out.n
                have hal : ∀ j, 32 = ((d.restart q).at j).length := fun j => (ADisk.at_length hgr.toOk _).symm
                have hal1 : ∀ j, (d1.at j).length = 32 := fun j => ADisk.at_length HZ.out.2.2.2.toOk _
                have hway : (d.restart q).way = [] := rfl
                have hdn : (d.restart q).dn = false := rfl
                obtain ⟨dr, hdr⟩ : ∃ dr, dr = d.restart q := ⟨_, rfl⟩
                rw [← hdr] at hgr haf hnr hal hway hdn
                have HDR := Lib.hid hdr.symm
                have HN : Hid (dr.Good ∧ dr.way = [] ∧ dr.dn = false) := ⟨hgr, hway, hdn⟩
                have HAF := Lib.hid haf
                have HAL := Lib.hid hal
                have HAL1 := Lib.hid hal1
                have HO := Lib.hid ho
                have hgd := HLT.out.good
                have HA1 := Lib.hid hA1
                have HA2 := Lib.hid hA2
                have HX : Hid (B ∉ [x, s, y] ∧ B + 1 ∉ [x, s, y]) := ⟨by simp; omega, by simp; omega⟩
                clear hgr haf hnr hal hal1 hway hdn hdr ho hA1 hA2
                go_wp2_with fail
                refine (own_RestartK w wr x s y d dr q HO.out hgd HQ.out HDR.out).mono ?_; rintro e w4 ⟨rfl, ho4, hk4⟩
                have hB1 := HA1.out.keep hk4 HX.out.1 HO.out.dp.block
                have hB2 := HA2.out.keep hk4 HX.out.2 HO.out.dp.block
                clear HA1 HA2 HO HLT hgd
                go_wp2
                go_loopw [17] (fun i wr => ∃ (j : Nat), j ≤ 8 ∧ i = .int .i64 j ∧ Own w wr x s y dr ∧ Arr wr B L1 (fun j => d1.at j) 8 ∧ Arr wr (B + 1) L2 last 8) (fun i _ => 8 - (vInt i).toNat)
                case atStart => exact ⟨0, by omega, rfl, ho4, hB1, hB2⟩
                case round =>
                  obtain ⟨j, hj, rfl, ho, hA1, hA2⟩ := hrel
                  by_cases hlt : j < 8
                  · obtain ⟨hr, hor⟩ := HAF.out j hlt
                    have HO := Lib.hid ho
                    have HA1 := Lib.hid hA1
                    have HA2 := Lib.hid hA2
                    have HR := Lib.hid hr
                    have HOR := Lib.hid hor
                    clear ho hA1 hA2 ho4 hB1 hB2 hr hor
                    obtain ⟨b1, hb1⟩ : ∃ b1, b1 = decide (dr.at j = d1.at j) := ⟨_, rfl⟩
                    obtain ⟨b2, hb2⟩ : ∃ b2, b2 = decide (dr.at j = last j) := ⟨_, rfl⟩
                    have hbb : b1 = true ∨ b1 = false ∧ b2 = true := by
                      rcases HOR.out with h | h
                      · left; rw [hb1]; simpa using h
                      · by_cases h' : dr.at j = d1.at j
                        · left; rw [hb1]; simpa using h'
                        · right; exact ⟨by rw [hb1]; simpa using h', by rw [hb2]; simpa using h⟩
                    have HB1 := Lib.hid hb1.symm
                    have HB2 := Lib.hid hb2.symm
                    clear hb1 hb2
                    rcases hbb with rfl | ⟨rfl, rfl⟩
                    all_goals
                      go_wp2_with fail
                      refine (own_Read w _ x s y dr j (dr.at j) 32 (HAL.out j) 0 HO.out HN.out.1 HR.out (by rw [if_pos HR.out])).mono ?_; rintro e w5 ⟨v5, rfl, r5, k5, ho5⟩
                      obtain ⟨a5, c5, rfl, s5, _⟩ := own_src (S := []) r5 (by simp)
                      have hC1 := HA1.out.keep0 k5
                      have hC2 := HA2.out.keep0 k5
                      obtain ⟨a6, c6, g6, s6, l6⟩ := hC1.src hlt hlt
                      obtain ⟨a7, c7, g7, s7, l7⟩ := hC2.src hlt hlt
                      have HC1 := Lib.hid hC1
                      have HC2 := Lib.hid hC2
                      have HO5 := Lib.hid ho5
                      clear hC1 hC2 ho5 HA1 HA2 HO r5 k5
                      have G7 := Lib.hid g7
                      clear g7
                      go_wp2_with fail
                      refine (own_Same32 w5 a5 a6 c5 c6 _ _ _ (HAL.out j).symm l6 s5 s6 HB1.out).mono ?_; rintro e w6 ⟨q6, rfl, rfl⟩
                      have g8 : (w5.drewN q6).cell? ⟨B + 1, j, none⟩ = some (.slice a7 32 c7) := G7.out
                      have s8 := s5.drewN q6
                      have s9 := s7.drewN q6
                      have hC1 := HC1.out.drewN q6
                      have hC2 := HC2.out.drewN q6
                      have ho6 := HO5.out.keep0 ((Keep.refl [] w5).drewN q6)
                      have HC1' := Lib.hid hC1
                      have HC2' := Lib.hid hC2
                      have HO6 := Lib.hid ho6
                      clear hC1 hC2 ho6 HC1 HC2 HO5 g6 G7 s5 s6 s7
                      generalize w5.drewN q6 = w7 at *
                      go_wp2_with fail
                      refine (own_Same32 w7 a5 a7 c5 c7 _ _ _ (HAL.out j).symm l7 s8 s9 HB2.out).mono ?_; rintro e w6 ⟨q7, rfl, rfl⟩
                      have hC1 := HC1'.out.drewN q7
                      have hC2 := HC2'.out.drewN q7
                      have ho6 := HO6.out.keep0 ((Keep.refl [] w7).drewN q7)
                      clear g8 s8 s9 HC1' HC2' HO6
                      generalize w7.drewN q7 = w8 at *
                      go_wp2
                      go_roundw
                      case rel => exact ⟨j + 1, by omega, by go_num, ho6, hC1, hC2⟩
                      case measure => simp only [vInt]; omega
                  · have HO := Lib.hid ho
                    clear ho hA1 hA2 ho4 hB1 hB2
                    have hz0 : ((dr.way.length : Nat) : Int) = 0 := by rw [HN.out.2.1]; rfl
                    have HZ0 := Lib.hid hz0
                    clear hz0
                    go_wp2_with (first
                      | (go_at_call 8; refine (law22_alive _).mono ?_; rintro e w5 ⟨rfl, hk5⟩)
                      | (go_at_call 16; refine (Disk_Waiting w5 x s y dr (HO.out.keep0 hk5).dp).mono ?_; rw [HZ0.out]; rintro e w6 ⟨rfl, rfl⟩)
                      | (go_at_call 15; refine (Disk_Down w5 x s y dr (HO.out.keep0 hk5).dp).mono ?_; rw [HN.out.2.2]; rintro e w6 ⟨rfl, rfl⟩))
                    go_ret
                    exact ⟨rfl, HO.out.kp.then hk5⟩
      · have hb : (d.flush.2 != 0) = true := by simp [hz]
        have HDn := Lib.hid (flush_fail hz)
        have HO := Lib.hid ho2
        clear hz ho hg HN ho2
        go_wp2_with (first
          | (go_at_call 8; refine (law22_alive w2).mono ?_; rintro e w3 ⟨rfl, hk3⟩)
          | (go_at_call 15; refine (Disk_Down w3 x s y d.flush.1 (HO.out.keep0 hk3).dp).mono ?_; rw [HDn.out]; rintro e w4 ⟨rfl, rfl⟩))
        go_ret
        exact ⟨rfl, HO.out.kp.then hk3⟩
end Go.Proofs.Ytaldkgnpkeekhaa
