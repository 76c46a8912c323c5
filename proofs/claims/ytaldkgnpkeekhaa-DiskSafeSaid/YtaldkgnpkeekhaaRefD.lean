/-
  The reference's disk: Flush.
-/
import Derived.Test.YtaldkgnpkeekhaaRefC
import Derived.Deep.RegionLaw
namespace Go.Proofs.Ytaldkgnpkeekhaa
open Go.RowKit Go.MapKept

namespace AL
variable {α : Type}
theorem putAll_take {s l : List (Int × α)} {i : Nat} (h : i < l.length) : putAll s (l.take (i + 1)) = put l[i].1 l[i].2 (putAll s (l.take i)) := by
  unfold putAll
  rw [take_snoc h, List.foldl_append]; rfl
theorem get_mem {l : List (Int × α)} {i : Nat} (hs : Sorted l) (h : i < l.length) : get l[i].1 l = some l[i].2 := (get_some_iff hs).2 (List.getElem_mem h)
end AL

def ADisk.flushTo (d : ADisk) (j : Nat) : ADisk := ⟨d.spend.n, AL.putAll d.safe (d.way.take j), d.way, d.spend.p, d.spend.dn⟩
theorem flushTo_good {d : ADisk} (h : d.Good) (j : Nat) : (d.flushTo j).Good := by
  obtain ⟨p1, p2⟩ := spend_p d h.p h.p2
  refine ⟨⟨?_, ?_, ?_, p1, p2⟩, h.sway, AL.sorted_putAll h.ssafe⟩
  · simp only [ADisk.flushTo, spend_n]; exact h.way
  · simp only [ADisk.flushTo, spend_n]
    exact AL.all_putAll h.safe (fun i l hg => h.way i l (AL.get_take h.sway hg)) (AL.sorted_take h.sway j)
  · simp only [ADisk.flushTo, spend_n]; exact h.n
theorem flushTo_zero (d : ADisk) : d.flushTo 0 = d.spend := by
  have h1 := spend_safe d
  have h2 := spend_way d
  unfold ADisk.flushTo
  simp only [List.take_zero, AL.putAll, List.foldl_nil]
  rw [← h1, ← h2]
theorem Secs.put {w w' : World} {sv sv' : Sl} {l : List (Int × List Int)} {L : List (Int × Sl)} {k : Int} {u : Sl} {b : List Int} (h : Secs w sv l L) (kp : Keep [] w w') (row : SecRow w' 0 sv'.val (AL.put k u L))
    (hu : w'.ownsRow 0 5 1 u.val b.length (bytes b)) : Secs w' sv' (AL.put k b l) (AL.put k u L) := by
  refine ⟨row, AL.keys_put h.keys, AL.sorted_put h.sorted, ?_⟩
  intro i s b' h1 h2
  rw [AL.get_put] at h1 h2
  by_cases e : k = i
  · rw [if_pos e] at h1 h2
    cases h1; cases h2
    exact hu
  · rw [if_neg e] at h1 h2
    exact own_keep0 (h.data i s b' h1 h2) kp
/-- the i-th sector, in the way's list and in memory -/
theorem Secs.nth {w : World} {v : Sl} {l : List (Int × List Int)} {L : List (Int × Sl)} (h : Secs w v l L) {i : Nat} (hi : i < l.length) (hi' : i < L.length) : L[i].1 = l[i].1 ∧ w.ownsRow 0 5 1 L[i].2.val l[i].2.length (bytes l[i].2) := by
  have hk : L[i].1 = l[i].1 := by
    have := congrArg (fun q : List Int => q[i]?) h.keys
    simpa [hi, hi'] using this
  refine ⟨hk, h.data L[i].1 L[i].2 l[i].2 (AL.get_mem h.sortedL hi') ?_⟩
  rw [hk]; exact AL.get_mem h.sorted hi

set_option maxRecDepth 100000 in
set_option maxHeartbeats 2000000 in
theorem ref22_Flush (w : World) (m : Nat) (d : ADisk) (sv yv : Sl) (Ls Ly : List (Int × Sl)) (h : RefD w m d sv yv Ls Ly) (ok : d.Good) :
    Calls Try.prog 41 #[.pointer (some ⟨m, 0, none⟩)] w fun e w' => e = .returned (.int .i64 d.flush.2) ∧ RefDisk w' m d.flush.1 ∧ Keep [m] w w' := by
  obtain ⟨hc, hf, hx⟩ := cells_of h.obj
  by_cases hdn : d.dn = true
  · have e : d.flush = (d, 14) := by simp [ADisk.flush, hdn]
    rw [e]
    rw [hdn] at hc
    have H := Lib.hid h
    clear h hdn e
    go_enter Try.func41, Try.ntmps41
    go_wp2
    go_ret
    exact ⟨rfl, H.out.disk, Keep.refl _ _⟩
  · have hdn : d.dn = false := by simpa using hdn
    rw [hdn] at hc
    by_cases hp : d.p = 0
    · have e : d.flush = (d.spend, 14) := by simp [ADisk.flush, hdn, hp]
      rw [e]
      have HP : Hid (decide (d.p ≠ 0) = false) := by simp [Hid, hp]
      have HO := Lib.hid ok
      clear hdn hp e ok
      go_enter Try.func41, Try.ntmps41
      go_wp2_with (go_at_call 65; refine (ref22_spend _ _ _ _ _ _ _ h HO.out.p HO.out.p2).mono ?_; rw [HP.out]; rintro e w' ⟨rfl, h', hk⟩)
      go_ret
      exact ⟨rfl, h'.disk, hk⟩
    · have e : d.flush = ({ d.spend with safe := AL.putAll d.safe d.way, way := [] }, 0) := by simp [ADisk.flush, hdn, hp]
      rw [e]
      have HP : Hid (decide (d.p ≠ 0) = true) := by simp [Hid, hp]
      have HO := Lib.hid ok
      have hlen : Ly.length ≤ 65536 := by rw [h.way.length]; exact ok.way_len
      have HL := Lib.hid h.way.length
      clear hdn hp e ok
      go_enter Try.func41, Try.ntmps41
      go_wp2_with (go_at_call 65; refine (ref22_spend _ _ _ _ _ _ _ h HO.out.p HO.out.p2).mono ?_; rw [HP.out]; rintro e w1 ⟨rfl, h1, hk1⟩)
      go_loopw [4] (fun i wr => ∃ (j : Nat) (sv' : Sl) (Ls' : List (Int × Sl)), j ≤ Ly.length ∧ i = .int .i64 j ∧ RefD wr m (d.flushTo j) sv' yv Ls' Ly ∧ Keep [m] w wr)
        (fun i _ => Ly.length - (vInt i).toNat)
      case atStart => exact ⟨0, sv, Ls, Nat.zero_le _, rfl, by rw [flushTo_zero]; exact h1, hk1⟩
      case round =>
        obtain ⟨j, sv', Ls', hj, rfl, hr, hk⟩ := hrel
        obtain ⟨hc2, hf2, hx2⟩ := cells_of hr.obj
        obtain ⟨a, cap, hv, hmax, _, hat⟩ := hr.way.row.at
        obtain ⟨ya, yn, yc⟩ := yv
        simp only [Sl.val, Value.slice.injEq] at hv
        obtain ⟨rfl, rfl, rfl⟩ := hv
        by_cases hlt : j < Ly.length
        · obtain ⟨g, rfl, h0, h1'⟩ := hat j hlt
          have hlt2 : j < d.way.length := by have := HL.out; omega
          clear hat hmax
          go_wp2
          have hkn := hr.safe.keys
          have hlenS : Ls'.length ≤ 65536 := by rw [hr.safe.length]; exact (flushTo_good HO.out j).safe_len
          have HNth := Lib.hid (hr.way.nth hlt2 hlt)
          have HR := Lib.hid hr
          have hrow : SecRow wr.drew 0 sv'.val Ls' := hr.safe.row
          have hsrt := hr.safe.sortedL
          clear hr hkn
          go_region_law ((go_simp; go_at_call 59; refine (ref22_set wr.drew 0 sv'.val Ls' Ly[j].1 Ly[j].2 hrow hsrt hlenS).mono ?_; rintro e w2 ⟨v', rfl, hrow2, hk2⟩; have hobj2 := hk2.at HR.out.obj (by simp); obtain ⟨hc3, hf3, hx3⟩ := cells_of hobj2; obtain ⟨na, nc, rfl, _⟩ := own_cells hrow2))
          all_goals
            obtain ⟨hn1, hn2⟩ := HNth.out
            have kw : Keep [] wr w2 := (Keep.refl [] wr).drew.then hk2
            have hr2 := HR.out.keep kw (by simp)
            obtain ⟨q1, q2, q3, q4⟩ := hr2.set (d' := d.flushTo (j + 1)) (sv' := ⟨na, (AL.put Ly[j].1 Ly[j].2 Ls').length, nc⟩) (yv' := ⟨some ⟨g, 0, none⟩, Ly.length, yc⟩) 1 (.slice na (AL.put Ly[j].1 Ly[j].2 Ls').length nc) rfl
            have hs2 : Secs w2 ⟨na, (AL.put Ly[j].1 Ly[j].2 Ls').length, nc⟩ (d.flushTo (j + 1)).safe (AL.put Ly[j].1 Ly[j].2 Ls') := by
              have e : (d.flushTo (j + 1)).safe = AL.put Ly[j].1 d.way[j].2 (d.flushTo j).safe := by
                rw [hn1]; exact AL.putAll_take hlt2
              rw [e]
              exact HR.out.safe.put kw (ownsRow_mono hrow2 (Nat.zero_le _)) (own_keep0 hn2 kw)
            have HQ : Hid (RefD (w2.setCell ⟨m, 1, none⟩ (.slice na (AL.put Ly[j].1 Ly[j].2 Ls').length nc)) m (d.flushTo (j + 1)) ⟨na, (AL.put Ly[j].1 Ly[j].2 Ls').length, nc⟩ ⟨some ⟨g, 0, none⟩, Ly.length, yc⟩ (AL.put Ly[j].1 Ly[j].2 Ls') Ly) :=
              ⟨q1, hs2.keep q2 (by simpa using hr2.noData), q4⟩
            have HK : Hid (Keep [m] w (w2.setCell ⟨m, 1, none⟩ (.slice na (AL.put Ly[j].1 Ly[j].2 Ls').length nc))) :=
              (hk.trans kw (fun _ h => h) (fun _ h => by cases h)).trans q2 (fun _ h => h) (fun _ h => .inl h)
            clear hn1 hn2 hr2 q1 q2 q3 q4 hs2 kw hk2 hk
            go_wp2
            go_roundw
            case rel => exact ⟨j + 1, _, _, by omega, by go_num, HQ.out, HK.out⟩
            case measure => simp only [vInt]; omega
        · obtain rfl : j = Ly.length := by omega
          obtain ⟨q1, q2, q3, _⟩ := hr.set (d' := { d.spend with safe := AL.putAll d.safe d.way, way := [] }) (sv' := sv') (yv' := ⟨none, 0, 0⟩) 2 (.slice none 0 0) rfl
          have HQ : Hid (RefD (wr.setCell ⟨m, 2, none⟩ (.slice none 0 0)) m { d.spend with safe := AL.putAll d.safe d.way, way := [] } sv' ⟨none, 0, 0⟩ Ls' []) := by
            refine ⟨q1, ?_, ⟨own_nil _ _ _ _, rfl, AL.sorted_nil, by simp [AL.get]⟩⟩
            have e : (d.flushTo Ly.length).safe = AL.putAll d.safe d.way := by
              simp only [ADisk.flushTo]; rw [HL.out, List.take_length]
            rw [e] at q3
            exact q3
          have HK : Hid (Keep [m] w (wr.setCell ⟨m, 2, none⟩ (.slice none 0 0))) := hk.trans q2 (fun _ h => h) (fun _ h => .inl h)
          clear q1 q2 q3 hk hr hat hmax h h1 hk1
          go_wp2
          go_ret
          exact ⟨rfl, HQ.out.disk, HK.out⟩
end Go.Proofs.Ytaldkgnpkeekhaa
