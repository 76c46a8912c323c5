/-
  Contracts of package disk, continued: maps.Copy at its maps, Flush and Write.
-/
import Derived.Test.YtaldkgnpkeekhaaDisk
import Derived.Test.YtaldkgnpkeekhaaBaseB
import Derived.StillTailTactics
namespace Go.Proofs.Ytaldkgnpkeekhaa
open Go.RowKit Go.MapKept

set_option maxHeartbeats 400000 in
theorem maps_Copy (w : World) (s y : Nat) (A B : List (Int × List Int)) (hA : IsMap w s encSec A) (hB : IsMap w y encSec B) (hne : s ≠ y) (hlen : ∀ p ∈ B, p.2.length = 32) :
    Calls Try.prog 48 #[.map (some s), .map (some y)] w fun e w' => e = .returned (.tuple #[]) ∧ IsMap w' s encSec (AL.putAll A B) ∧ Keep [s] w w' := by
  have hsA := hA.sorted
  have hsl := hA.lt
  have hyl := hB.lt
  go_enter Try.func48, Try.ntmps48
  go_wp2_with (at_range; refine wpList_range_it rfl _ 77 rfl Try.underlying77 rfl hB ?_; intro w0 hit0 hk0 hs0)
  go_frame
  go_loopw [4] (fun _ wr => ∃ done, Iter wr y w.heap.size encSec B done ∧ IsMap wr s encSec (AL.putAll A done) ∧ Keep [s] w wr) (fun _ wr => itLeft wr y w.heap.size)
  case atStart => exact ⟨[], hit0, hA.of_block (hk0.block s hsl (by simp)), hk0.mono (by simp)⟩
  case round =>
    obtain ⟨done, hit, hm, hk⟩ := hrel
    go_wp2_with (first | (at_next; refine wpList_next_it rfl _ rfl rfl hit ?_ ?_))
    · intro hp
      have hfin : AL.putAll A done = AL.putAll A B := AL.putAll_perm hsA hp ((hp.map _).nodup_iff.2 (AL.keys_nodup hB.sorted))
      rw [hfin] at hm
      go_wp2
      go_end0
      exact ⟨rfl, hm, hk⟩
    · intro k x w1 hx hnew hit1 hk1 hs1 hlt hen
      have hm1 : IsMap w1 s encSec (AL.putAll A done) := hm.of_block (hk1.block s hm.lt (by simp; omega))
      have hxl := hlen _ hx
      have HX := Lib.hid hxl
      have hsz := hk.size
      have HP : Hid (AL.put k x (AL.putAll A done) = AL.putAll A (done ++ [(k, x)])) := by simp [Hid, AL.putAll]
      clear hxl hx hnew hlen hit hm
      simp only [encSec] at hen ⊢
      go_wp2_with (first
        | ((with_reducible refine wpList_store_new rfl 82 _ _ rfl (bytes x).toArray ?_ ?_ (size_sector HX.out) ?_ ?_ ?_); go_must (rfl); go_must (rfl); go_must (exact (by simp [bytes, HX.out])); go_must (exact bytes_all _))
        | ((with_reducible refine wpList_load_row rfl 82 _ rfl w1.heap.size ?_ 82 (bytes x).toArray (0, 0) _ ?_ Try.underlying82 rfl (size_sector HX.out) ?_); go_must (rfl); go_must (exact heap_alloc_new _ _))
        | (at_mapUpdate; refine wpList_mapUpdate_im rfl _ _ _ 77 rfl Try.underlying77 Try.underlying3 rfl k rfl x rfl (hm1.other _) ?_; intro w2 hm2 hk2 hs2))
      have k12 : Keep [s] w1 w2 := ((Keep.refl [s] w1).alloc _).trans hk2 (fun _ h => h) (fun _ h => .inl h)
      have hy2 := k12.block y hit1.lt.1 (by simp; omega)
      have hr2 := k12.block w.heap.size hit1.lt.2 (by simp; omega)
      go_roundw
      case rel =>
        refine ⟨done ++ [(k, x)], hit1.of_blocks hy2 hr2, HP.out ▸ hm2, ?_⟩
        exact (hk.trans hk1 (fun _ h => h) (by simp)).trans k12 (fun _ h => h) (fun _ h => .inl h)
      case measure => rw [itLeft_of_blocks hy2 hr2]; exact hlt

theorem DiskP.drew {w : World} {x s y : Nat} {d : ADisk} (h : DiskP w x s y d) : DiskP w.drew x s y d := ⟨h.obj, h.safe, h.way, h.ne⟩

/-- what Flush answers, and leaves -/
def ADisk.flush (d : ADisk) : ADisk × Int :=
  if d.dn then (d, 14) else if d.p = 0 then (d.spend, 14) else ({ d.spend with safe := AL.putAll d.safe d.way, way := [] }, 0)

theorem spend_safe (d : ADisk) : d.spend.safe = d.safe := by unfold ADisk.spend; split <;> (try split) <;> rfl
theorem spend_way (d : ADisk) : d.spend.way = d.way := by unfold ADisk.spend; split <;> (try split) <;> rfl
set_option maxRecDepth 100000 in
set_option maxHeartbeats 400000 in
theorem Disk_Flush (w : World) (x s y : Nat) (d : ADisk) (h : DiskP w x s y d) (ok : d.Ok) :
    Calls Try.prog 22 #[.pointer (some ⟨x, 0, none⟩)] w fun e w' => e = .returned (.int .i64 d.flush.2) ∧ DiskP w' x s y d.flush.1 ∧ Keep [x, s, y] w w' := by
  obtain ⟨hc, hf, hx⟩ := cells_of h.obj
  by_cases hdn : d.dn = true
  · have e : d.flush = (d, 14) := by simp [ADisk.flush, hdn]
    rw [e]
    rw [hdn] at hc
    have H := Lib.hid h
    clear h hdn e
    go_enter Try.func22, Try.ntmps22
    go_wp2
    go_ret
    exact ⟨rfl, H.out, Keep.refl _ _⟩
  · have hdn : d.dn = false := by simpa using hdn
    rw [hdn] at hc
    by_cases hp : d.p = 0
    · have e : d.flush = (d.spend, 14) := by simp [ADisk.flush, hdn, hp]
      rw [e]
      have HP : Hid (decide (d.p ≠ 0) = false) := by simp [Hid, hp]
      have HO := Lib.hid ok
      clear hdn hp e ok
      go_enter Try.func22, Try.ntmps22
      go_wp2_with (go_at_call 47; refine (Disk_spend _ _ _ _ _ h HO.out.p HO.out.p2).mono ?_; rw [HP.out]; rintro e w' ⟨rfl, h', hk⟩)
      go_ret
      exact ⟨rfl, h', hk.mono (by simp)⟩
    · have e : d.flush = ({ d.spend with safe := AL.putAll d.safe d.way, way := [] }, 0) := by simp [ADisk.flush, hdn, hp]
      rw [e]
      have HP : Hid (decide (d.p ≠ 0) = true) := by simp [Hid, hp]
      have HO := Lib.hid ok
      have HD := Lib.hid hdn
      clear hdn hp e ok
      go_enter Try.func22, Try.ntmps22
      go_wp2_with (go_at_call 47; refine (Disk_spend _ _ _ _ _ h HO.out.p HO.out.p2).mono ?_; rw [HP.out]; rintro e w1 ⟨rfl, h1, hk1⟩; obtain ⟨hc1, hf1, hx1⟩ := cells_of h1.obj)
      have hs1 := h1.safe
      have hy1 := h1.way
      have hlen : ∀ p ∈ d.way, p.2.length = 32 := fun p hp => (HO.out.way p.1 p.2 ((AL.get_some_iff h.way.sorted).2 hp)).1
      rw [spend_safe] at hs1
      rw [spend_way] at hy1
      have HN := Lib.hid h1.ne
      have HL := Lib.hid hlen
      clear h hc hf hlen
      go_still_tail 8, (by kernel_rfl)
      change wpList _ _ _ _ _ w1.drew
      go_wp2_with (first
        | (go_at_call 48; refine (maps_Copy _ s y d.safe d.way hs1.drew hy1.drew HN.out HL.out).mono ?_; rintro e w2 ⟨rfl, h2, hk2⟩
           have hk2' : Keep [s] w1 w2 := (Keep.refl _ w1).drew.trans hk2 (fun _ h => h) (fun _ h => .inl h)
           have hobj2 := hk2'.at h1.obj (by simpa using h1.nes.1)
           have hy2 : IsMap w2 y encSec d.way := hy1.of_block (hk2'.block y h1.lt.2.2 (by simpa using HN.out.symm))
           obtain ⟨hc2, hf2, hx2⟩ := cells_of hobj2
           clear hc1 hf1 hx1 hs1 hk2 hy1)
        | ((with_reducible refine wpList_clear_im rfl _ 77 rfl Try.underlying77 ?_ hy2 ?_); go_must (rfl); intro w3 h3 hk3 hs3))
      go_ret
      refine ⟨rfl, ⟨?_, ?_, ?_, HN.out⟩, ?_⟩
      · have := hk3.at hobj2 (by simpa using h1.nes.2)
        exact this
      · exact h2.of_block (hk3.block s h2.lt (by simpa using HN.out))
      · exact h3
      · exact (hk1.trans hk2' (U := [x, s, y]) (by simp) (by simp)).trans hk3 (fun _ h => h) (by simp)
end Go.Proofs.Ytaldkgnpkeekhaa
