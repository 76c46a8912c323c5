/-
  The reference's disk: Restart and Write.
-/
import Derived.Test.YtaldkgnpkeekhaaRefD
import Derived.Deep.AppendLies
namespace Go.Proofs.Ytaldkgnpkeekhaa
open Go.RowKit Go.MapKept

/-- the disk behind j sectors of a restart: sj is safe -/
def ADisk.rest (d : ADisk) (sj : List (Int × List Int)) : ADisk := ⟨d.n, sj, d.way, d.p, d.dn⟩
theorem keepSome_good {d : ADisk} {sj : List (Int × List Int)} (h : (d.rest sj).Good) {p : Int × List Int} (hp : p ∈ d.way) : (d.rest (AL.put p.1 p.2 sj)).Good := by
  have hw := h.way p.1 p.2 ((AL.get_some_iff h.sway).2 hp)
  refine ⟨⟨h.way, ?_, h.n, h.p, h.p2⟩, h.sway, AL.sorted_put h.ssafe⟩
  simp only [ADisk.rest]
  exact AL.all_put h.safe hw

set_option maxRecDepth 100000 in
set_option maxHeartbeats 2000000 in
theorem ref22_Restart (w : World) (m : Nat) (d : ADisk) (q0 : Int) (h : RefDisk w m d) (ok : d.Good) (hq : 0 ≤ q0) (hq2 : q0 ≤ 18446744073709551615) :
    Calls Try.prog 30 #[.pointer (some ⟨m, 0, none⟩), .int .u64 q0] w fun e w' => e = .returned (.tuple #[]) ∧ RefDisk w' m (d.restart q0) ∧ Keep [m] w w' := by
  obtain ⟨sv, yv, Ls, Ly, h⟩ := h
  have hlen : Ly.length ≤ 65536 := by rw [h.way.length]; exact ok.way_len
  have HL := Lib.hid h.way.length
  have HQ0 := Lib.hid hq2
  have HO := Lib.hid ok
  clear ok hq2
  go_enter Try.func30, Try.ntmps30
  go_wp2
  go_loopw [4, 5] (fun q i wr => ∃ (j : Nat) (qj : Int) (sj : List (Int × List Int)) (sv' : Sl) (Ls' : List (Int × Sl)), j ≤ Ly.length ∧ i = .int .i64 j ∧ q = .int .u64 qj ∧ 0 ≤ qj ∧ Hid (qj ≤ 18446744073709551615) ∧
      RefD wr m (d.rest sj) sv' yv Ls' Ly ∧ Hid ((d.rest sj).Good) ∧ Hid (keepSome sj (d.way.drop j) qj = keepSome d.safe d.way q0) ∧ Keep [m] w wr)
    (fun _ i _ => Ly.length - (vInt i).toNat)
  case atStart => exact ⟨0, q0, d.safe, sv, Ls, Nat.zero_le _, rfl, rfl, hq, HQ0, h, HO, rfl, Keep.refl _ _⟩
  case round =>
    obtain ⟨j, qj, sj, sv', Ls', hj, rfl, rfl, hq1, HQ1, hr, HG, HE, hk⟩ := hrel
    obtain ⟨hc2, hf2, hx2⟩ := cells_of hr.obj
    obtain ⟨a, cap, hv, hmax, _, hat⟩ := hr.way.row.at
    obtain ⟨ya, yn, yc⟩ := yv
    simp only [Sl.val, Value.slice.injEq] at hv
    obtain ⟨rfl, rfl, rfl⟩ := hv
    by_cases hlt : j < Ly.length
    · obtain ⟨g, rfl, h0, h1'⟩ := hat j hlt
      have hlt2 : j < d.way.length := by have := HL.out; omega
      have hnext := keepSome_step (s := sj) hlt2 qj
      have hh := u64_half hq1 HQ1.out
      by_cases hodd : qj % 2 = 1
      · have hb : (qj % 2 == 1) = true := by simp [hodd]
        rw [if_pos hodd] at hnext
        have HN := Lib.hid hnext
        have hlenS : Ls'.length ≤ 65536 := by rw [hr.safe.length]; exact HG.out.safe_len
        have HNth : Hid (Ly[j].1 = d.way[j].1 ∧ wr.ownsRow 0 5 1 Ly[j].2.val d.way[j].2.length (bytes d.way[j].2)) := hr.way.nth hlt2 hlt
        have HR := Lib.hid hr
        have hrow : SecRow wr.drew 0 sv'.val Ls' := hr.safe.row
        have hsrt := hr.safe.sortedL
        clear hat hmax hnext hodd hr h
        go_wp2
        go_region_law ((go_simp; go_at_call 59; refine (ref22_set wr.drew 0 sv'.val Ls' Ly[j].1 Ly[j].2 hrow hsrt hlenS).mono ?_; rintro e w2 ⟨v', rfl, hrow2, hk2⟩; have hobj2 := hk2.at HR.out.obj (by simp); obtain ⟨hc3, hf3, hx3⟩ := cells_of hobj2; obtain ⟨na, nc, rfl, _⟩ := own_cells hrow2))
        all_goals
          obtain ⟨hn1, hn2⟩ := HNth.out
          have kw : Keep [] wr w2 := (Keep.refl [] wr).drew.then hk2
          have hr2 := HR.out.keep kw (by simp)
          obtain ⟨q1, q2, q3, q4⟩ := hr2.set (d' := d.rest (AL.put d.way[j].1 d.way[j].2 sj)) (sv' := ⟨na, (AL.put Ly[j].1 Ly[j].2 Ls').length, nc⟩) (yv' := ⟨some ⟨g, 0, none⟩, Ly.length, yc⟩) 1 (.slice na (AL.put Ly[j].1 Ly[j].2 Ls').length nc) rfl
          have hs2 : Secs w2 ⟨na, (AL.put Ly[j].1 Ly[j].2 Ls').length, nc⟩ (AL.put d.way[j].1 d.way[j].2 sj) (AL.put Ly[j].1 Ly[j].2 Ls') := by
            rw [← hn1]
            exact HR.out.safe.put kw (ownsRow_mono hrow2 (Nat.zero_le _)) (own_keep0 hn2 kw)
          have HQ : Hid (RefD (w2.setCell ⟨m, 1, none⟩ (.slice na (AL.put Ly[j].1 Ly[j].2 Ls').length nc)) m (d.rest (AL.put d.way[j].1 d.way[j].2 sj)) ⟨na, (AL.put Ly[j].1 Ly[j].2 Ls').length, nc⟩ ⟨some ⟨g, 0, none⟩, Ly.length, yc⟩ (AL.put Ly[j].1 Ly[j].2 Ls') Ly) :=
            ⟨q1, hs2.keep q2 (by simpa using hr2.noData), q4⟩
          have HK : Hid (Keep [m] w (w2.setCell ⟨m, 1, none⟩ (.slice na (AL.put Ly[j].1 Ly[j].2 Ls').length nc))) :=
            (hk.trans kw (fun _ h => h) (fun _ h => by cases h)).trans q2 (fun _ h => h) (fun _ h => .inl h)
          clear hn1 hn2 hr2 q1 q2 q3 q4 hs2 kw hk2 hk
          go_wp2
          go_roundw
          case rel => exact ⟨j + 1, qj / 2, _, _, _, by omega, by go_num, rfl, by omega, by have := HQ1.out; unfold Hid; omega, HQ.out, keepSome_good HG.out (List.getElem_mem hlt2), by unfold Hid; rw [← HN.out]; exact HE.out, HK.out⟩
          case measure => simp only [vInt]; omega
      · have hb : (qj % 2 == 1) = false := by simp; omega
        rw [if_neg hodd] at hnext
        have HN := Lib.hid hnext
        clear hat hmax hnext hodd h
        go_wp2
        go_roundw
        case rel => exact ⟨j + 1, qj / 2, sj, sv', Ls', by omega, by go_num, rfl, by omega, by have := HQ1.out; unfold Hid; omega, hr, HG, by unfold Hid; rw [← HN.out]; exact HE.out, hk⟩
        case measure => simp only [vInt]; omega
    · obtain rfl : j = Ly.length := by omega
      have HE2 : Hid (sj = keepSome d.safe d.way q0) := by
        have := HE.out
        rw [HL.out, List.drop_length] at this
        exact this
      obtain ⟨q1, q2, q3, _⟩ := hr.set (d' := ⟨d.n, sj, [], d.p, d.dn⟩) (sv' := sv') (yv' := ⟨none, 0, 0⟩) 2 (.slice none 0 0) rfl
      have r1 : RefD (wr.setCell ⟨m, 2, none⟩ (.slice none 0 0)) m ⟨d.n, sj, [], d.p, d.dn⟩ sv' ⟨none, 0, 0⟩ Ls' [] := ⟨q1, q3, ⟨own_nil _ _ _ _, rfl, AL.sorted_nil, by simp [AL.get]⟩⟩
      obtain ⟨p1, p2, p3, p4⟩ := r1.set (d' := ⟨d.n, sj, [], d.p, false⟩) (sv' := sv') (yv' := ⟨none, 0, 0⟩) 4 (.bool false) rfl
      have r2 : RefD _ m ⟨d.n, sj, [], d.p, false⟩ sv' ⟨none, 0, 0⟩ Ls' [] := ⟨p1, p3, p4⟩
      obtain ⟨t1, t2, t3, t4⟩ := r2.set (d' := ⟨d.n, sj, [], -1, false⟩) (sv' := sv') (yv' := ⟨none, 0, 0⟩) 3 (.int .i64 (-1)) rfl
      have r3 : RefD _ m ⟨d.n, sj, [], -1, false⟩ sv' ⟨none, 0, 0⟩ Ls' [] := ⟨t1, t3, t4⟩
      have HQ := Lib.hid (show RefDisk _ m (d.restart q0) by have e : d.restart q0 = ⟨d.n, sj, [], -1, false⟩ := by rw [HE2.out]; rfl
                                                             rw [e]; exact r3.disk)
      have HK := Lib.hid (((hk.trans q2 (fun _ h => h) (fun _ h => .inl h)).trans p2 (fun _ h => h) (fun _ h => .inl h)).trans t2 (fun _ h => h) (fun _ h => .inl h))
      clear q1 q2 q3 r1 p1 p2 p3 p4 r2 t1 t2 t3 t4 r3 hk hr hat hmax h
      go_wp2
      go_end0
      exact ⟨rfl, HQ.out, HK.out⟩

theorem info_u8 : ElemInfo Try.prog 5 (.int .u8 0) 1 1 := by unfold ElemInfo; kernel_rfl

set_option maxRecDepth 100000 in
set_option maxHeartbeats 2000000 in
theorem ref22_Write_no (w : World) (m : Nat) (d : ADisk) (i : Int) (a : Option Addr) (n cap : Nat) (l : List Int) (h : RefDisk w m d) (ok : d.Good) (hn : n = l.length) (hno : (d.write i l).2 ≠ 0) :
    Calls Try.prog 39 #[.pointer (some ⟨m, 0, none⟩), .int .i64 i, .slice a n cap] w fun e w' => e = .returned (.int .i64 (d.write i l).2) ∧ RefDisk w' m (d.write i l).1 ∧ Keep [m] w w' := by
  subst hn
  obtain ⟨sv, yv, Ls, Ly, h⟩ := h
  obtain ⟨hc, hf, hx⟩ := cells_of h.obj
  by_cases hw : d.wrong i = 0
  · obtain ⟨hdn, hi, hin⟩ := wrong_zero hw
    rw [hdn] at hc
    have hni : ¬ d.n ≤ i := by omega
    by_cases hl : l.length = 32
    · by_cases hp : d.p = 0
      · have e : d.write i l = (d.spend, 14) := by simp [ADisk.write, hw, hl, hp]
        rw [e]
        have HP : Hid (decide (d.p ≠ 0) = false) := by simp [Hid, hp]
        have HO := Lib.hid ok
        rw [hl]
        clear hno hw hl hp e ok hdn
        go_enter Try.func39, Try.ntmps39
        go_wp2_with (go_at_call 65; refine (ref22_spend _ _ _ _ _ _ _ h HO.out.p HO.out.p2).mono ?_; rw [HP.out]; rintro e w' ⟨rfl, h', hk⟩)
        go_ret
        exact ⟨rfl, h'.disk, hk⟩
      · exact absurd (by simp [ADisk.write, hw, hl, hp]) hno
    · have e : d.write i l = (d, 1) := by simp [ADisk.write, hw, hl]
      rw [e]
      have hl' : ((l.length : Int) != 32) = true := by rw [bne_iff_ne]; omega
      have H := Lib.hid h
      clear hno hw hl e ok hdn h
      go_enter Try.func39, Try.ntmps39
      go_wp2
      go_ret
      exact ⟨rfl, H.out.disk, Keep.refl _ _⟩
  · have e : d.write i l = (d, d.wrong i) := by simp [ADisk.write, hw]
    rw [e]
    have H := Lib.hid h
    obtain ⟨n, sf, wy, p, dn⟩ := d
    clear hno e ok h
    cases dn
    · by_cases hi : i < 0
      · have e : ADisk.wrong ⟨n, sf, wy, p, false⟩ i = 1 := by simp [ADisk.wrong, hi]
        rw [e]
        clear hw e
        go_enter Try.func39, Try.ntmps39
        go_wp2
        go_ret
        exact ⟨rfl, H.out.disk, Keep.refl _ _⟩
      · by_cases hn : n ≤ i
        · have e : ADisk.wrong ⟨n, sf, wy, p, false⟩ i = 1 := by simp [ADisk.wrong, hn]
          rw [e]
          clear hw e
          go_enter Try.func39, Try.ntmps39
          go_wp2
          go_ret
          exact ⟨rfl, H.out.disk, Keep.refl _ _⟩
        · exact absurd (by simp [ADisk.wrong, hi, hn]) hw
    · have e : ADisk.wrong ⟨n, sf, wy, p, true⟩ i = 14 := by simp [ADisk.wrong]
      rw [e]
      clear hw e
      go_enter Try.func39, Try.ntmps39
      go_wp2
      go_ret
      exact ⟨rfl, H.out.disk, Keep.refl _ _⟩

set_option maxRecDepth 100000 in
set_option maxHeartbeats 2000000 in
theorem ref22_Write_yes (w : World) (m : Nat) (d : ADisk) (i : Int) (a : Option Addr) (cap : Nat) (l : List Int) (h : RefDisk w m d) (ok : d.Good) (hw : d.wrong i = 0) (hl : l.length = 32) (hp : d.p ≠ 0) (hsrc : Src w a (bytes l) [m]) :
    Calls Try.prog 39 #[.pointer (some ⟨m, 0, none⟩), .int .i64 i, .slice a 32 cap] w fun e w' => e = .returned (.int .i64 0) ∧ RefDisk w' m { d.spend with way := AL.put i l d.way } ∧ Keep [m] w w' := by
  obtain ⟨sv, yv, Ls, Ly, h⟩ := h
  obtain ⟨hc, hf, hx⟩ := cells_of h.obj
  obtain ⟨hdn, hi, hin⟩ := wrong_zero hw
  rw [hdn] at hc
  have hni : ¬ d.n ≤ i := by omega
  have HP : Hid (decide (d.p ≠ 0) = true) := by simp [Hid, hp]
  have HO := Lib.hid ok
  have HLen := Lib.hid hl
  obtain ⟨ad, rfl, _⟩ := hsrc.at_ (by simp [bytes, hl])
  clear hw hp ok hdn hl
  go_enter Try.func39, Try.ntmps39
  go_wp2_with (go_at_call 65; refine (ref22_spend _ _ _ _ _ _ _ h HO.out.p HO.out.p2).mono ?_; rw [HP.out]; rintro e w1 ⟨rfl, h1, hk1⟩; obtain ⟨hc1, hf1, hx1⟩ := cells_of h1.obj)
  have hsrc1 := hsrc.keep hk1 (by simp)
  obtain ⟨_, he, hnews⟩ := hsrc1.at_ (by simp [bytes, HLen.out])
  cases he
  have HN := Lib.hid hnews
  clear hnews h hc hf hsrc
  have H1 := Lib.hid h1
  have hsrt := h1.way.sortedL
  have hlenY : Ly.length ≤ 65536 := by rw [h1.way.length]; exact (spend_good HO.out).way_len
  clear h1
  go_region_law (first
    | (refine step_append_news rfl _ _ 34 rfl Try.underlying34 info_u8 rfl (by decide) _ rfl (own_empty _ _ _) ad 32 cap (bytes l) rfl ?_ ?_ (bytes_one l) ?_ ?_ ?_ ?_; go_must (exact (by simp [bytes, HLen.out])); go_must (exact (fun j u hu => cell_alloc (HN.out j u hu) _)); go_must (exact (by decide)); go_must (exact (by decide)); go_must (exact (by simp)); intro v' w2 hown2 hkk
       have hk2 : Keep [] w1 w2 := hkk _ ((Keep.refl [] w1).drew.alloc _) (Nat.le_refl _)
       obtain ⟨hc2, hf2, hx2⟩ := cells_of (hk2.at H1.out.obj (by simp))
       obtain ⟨na, nc, rfl, _⟩ := own_cells hown2)
    | (go_simp; go_at_call 59; refine (ref22_set w2 0 yv.val Ly i ⟨na, 32, nc⟩ (own_keep0 H1.out.way.row hk2) hsrt hlenY).mono ?_; rintro e w3 ⟨v3, rfl, hrow3, hk3⟩; have hobj3 := hk3.at (hk2.at H1.out.obj (by simp)) (by simp); obtain ⟨hc3, hf3, hx3⟩ := cells_of hobj3; obtain ⟨nb, nd, rfl, _⟩ := own_cells hrow3))
  all_goals
    have kw : Keep [] w1 w3 := hk2.then hk3
    have hr2 := H1.out.keep kw (by simp)
    obtain ⟨q1, q2, q3, q4⟩ := hr2.set (d' := { d.spend with way := AL.put i l d.way }) (sv' := sv) (yv' := ⟨nb, (AL.put i (Sl.mk na 32 nc) Ly).length, nd⟩) 2 (.slice nb (AL.put i (Sl.mk na 32 nc) Ly).length nd) rfl
    have hb3 : w3.ownsRow 0 5 1 (.slice na 32 nc) l.length (bytes l) := by
      rw [HLen.out]
      exact own_keep0 (ownsRow_mono hown2 (Nat.zero_le _)) hk3
    have hs2 : Secs w3 ⟨nb, (AL.put i (Sl.mk na 32 nc) Ly).length, nd⟩ (AL.put i l d.way) (AL.put i (Sl.mk na 32 nc) Ly) := by
      have := H1.out.way
      rw [spend_way] at this
      exact this.put kw (ownsRow_mono hrow3 (Nat.zero_le _)) hb3
    have HQ := Lib.hid (show RefDisk _ m { d.spend with way := AL.put i l d.way } from (RefD.mk q1 q3 (hs2.keep q2 (by simpa using hr2.noData))).disk)
    have HK := Lib.hid ((hk1.trans kw (fun _ h => h) (fun _ h => by cases h)).trans q2 (fun _ h => h) (fun _ h => .inl h))
    clear kw hr2 q1 q2 q3 q4 hb3 hs2 hk1 hk2 hk3
    go_wp2
    go_ret
    exact ⟨rfl, HQ.out, HK.out⟩

theorem write_code {d : ADisk} {i : Int} {l : List Int} (h : (d.write i l).2 = 0) : d.wrong i = 0 ∧ l.length = 32 ∧ d.p ≠ 0 ∧ d.write i l = ({ d.spend with way := AL.put i l d.way }, 0) := by
  unfold ADisk.write at h ⊢
  by_cases h1 : d.wrong i ≠ 0
  · rw [if_pos h1] at h; exact absurd h h1
  · rw [if_neg h1] at h ⊢
    by_cases h2 : l.length ≠ 32
    · rw [if_pos h2] at h; simp at h
    · rw [if_neg h2] at h ⊢
      by_cases h3 : d.p = 0
      · rw [if_pos h3] at h; simp at h
      · rw [if_neg h3]; exact ⟨by simpa using h1, by simpa using h2, h3, rfl⟩
theorem ref22_Write (w : World) (m : Nat) (d : ADisk) (i : Int) (a : Option Addr) (n cap : Nat) (l : List Int) (h : RefDisk w m d) (ok : d.Good) (hn : n = l.length) (hsrc : Src w a (bytes l) [m]) :
    Calls Try.prog 39 #[.pointer (some ⟨m, 0, none⟩), .int .i64 i, .slice a n cap] w fun e w' => e = .returned (.int .i64 (d.write i l).2) ∧ RefDisk w' m (d.write i l).1 ∧ Keep [m] w w' := by
  by_cases hz : (d.write i l).2 = 0
  · obtain ⟨h1, h2, h3, h4⟩ := write_code hz
    rw [h4, hn, h2]
    exact ref22_Write_yes w m d i a cap l h ok h1 h2 h3 hsrc
  · exact ref22_Write_no w m d i a n cap l h ok hn hz
theorem ref22_Flush' (w : World) (m : Nat) (d : ADisk) (h : RefDisk w m d) (ok : d.Good) :
    Calls Try.prog 41 #[.pointer (some ⟨m, 0, none⟩)] w fun e w' => e = .returned (.int .i64 d.flush.2) ∧ RefDisk w' m d.flush.1 ∧ Keep [m] w w' := by
  obtain ⟨sv, yv, Ls, Ly, h⟩ := h
  exact ref22_Flush w m d sv yv Ls Ly h ok
theorem ref22_Arm' (w : World) (m : Nat) (d : ADisk) (h : RefDisk w m d) (n : Int) :
    Calls Try.prog 29 #[.pointer (some ⟨m, 0, none⟩), .int .i64 n] w fun e w' => e = .returned (.tuple #[]) ∧ RefDisk w' m (d.arm n) ∧ Keep [m] w w' := by
  obtain ⟨sv, yv, Ls, Ly, h⟩ := h
  exact (ref22_Arm w m d sv yv Ls Ly h n).mono fun _ _ ⟨h1, h2, h3⟩ => ⟨h1, h2.disk, h3⟩
/-- what Read tells: the bytes, the error -/
theorem ref22_Read (w : World) (m : Nat) (d : ADisk) (h : RefDisk w m d) (ok : d.Good) (i : Int) :
    Calls Try.prog 13 #[.pointer (some ⟨m, 0, none⟩), .int .i64 i] w fun e w' => ∃ v, e = .returned (.tuple #[v, .int .i64 (d.wrong i)]) ∧ (∃ l, l = (if d.wrong i = 0 then d.at i else []) ∧ w'.ownsRow 0 5 1 v l.length (bytes l)) ∧ Keep [] w w' := by
  obtain ⟨sv, yv, Ls, Ly, h⟩ := h
  by_cases hw : d.wrong i = 0
  · refine (ref22_Read_yes w m d sv yv Ls Ly i h ok.toOk hw).mono fun e w' ⟨v, h1, h2, h3⟩ => ⟨v, by rw [h1, hw], ⟨_, rfl, ?_⟩, h3⟩
    rw [if_pos hw, ADisk.at_length ok.toOk]; exact h2
  · refine (ref22_Read_no w m d sv yv Ls Ly i h hw).mono fun e w' ⟨h1, h2⟩ => ⟨_, h1, ⟨_, rfl, ?_⟩, h2 ▸ Keep.refl _ _⟩
    rw [if_neg hw]; exact own_nil _ _ _ _
theorem Disk_Read (w : World) (x s y : Nat) (d : ADisk) (h : DiskP w x s y d) (ok : d.Good) (i : Int) :
    Calls Try.prog 12 #[.pointer (some ⟨x, 0, none⟩), .int .i64 i] w fun e w' => ∃ v, e = .returned (.tuple #[v, .int .i64 (d.wrong i)]) ∧ (∃ l, l = (if d.wrong i = 0 then d.at i else []) ∧ w'.ownsRow 0 5 1 v l.length (bytes l)) ∧ Keep [] w w' := by
  by_cases hw : d.wrong i = 0
  · refine (Disk_Read_yes w x s y d i h ok.toOk hw).mono fun e w' ⟨v, h1, h2, h3⟩ => ⟨v, by rw [h1, hw], ⟨_, rfl, ?_⟩, h3⟩
    rw [if_pos hw, ADisk.at_length ok.toOk]; exact ownsRow_mono h2 (Nat.zero_le _)
  · refine (Disk_Read_no w x s y d i h hw).mono fun e w' ⟨h1, h2⟩ => ⟨_, h1, ⟨_, rfl, ?_⟩, h2 ▸ Keep.refl _ _⟩
    rw [if_neg hw]; exact own_nil _ _ _ _
end Go.Proofs.Ytaldkgnpkeekhaa
