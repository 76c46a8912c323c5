/-
  Contracts of package disk, continued: the sorted keys of a map with int keys, Restart.
-/
import Derived.Test.YtaldkgnpkeekhaaDiskC
import Derived.Test.YtaldkgnpkeekhaaShelfA
namespace Go.Proofs.Ytaldkgnpkeekhaa
open Go.RowKit Go.MapKept Go.Maps Go.Sort Go.Shelf Go.WideElems

/-- elements are not looked into -/
def unread (_ : Value) : Option (DataW Unit × List MemPlace) := some (.nil, [])
def wf64 (k : Int) : Prop := (Lit.int .i64 k).wf = true
theorem wf64_of {k : Int} (h1 : -9223372036854775808 ≤ k) (h2 : k < 9223372036854775808) : wf64 k := WalkArith.wf_i64 (by omega)
def litInt : Value → Int | .int _ j => j | _ => 0

theorem rg_int {P : Program} {kt : TypeId} (hk : P.underlying kt = some (.int .i64)) {e : MapEntry} {j : Int} (h : e.key = .int .i64 j) (hw : wf64 j)  : WideElems.rd P kt unread e = some (.int .i64 j, .nil) := by
  unfold WideElems.rd
  rw [h, keyOf_int_mk hk hw]
  rfl

theorem IsMap.owns {α : Type} {P : Program} {kt : TypeId} {w : World} {b : Nat} {enc : α → Value} {l : List (Int × α)} (hk : P.underlying kt = some (.int .i64)) (h : IsMap w b enc l) (hw : ∀ p ∈ l, wf64 p.1) (hl : l.length ≤ maxLen) :
    ∃ D : DataW Unit, w.ownsMap P kt unread b l.length D ∧ (intKeys D).Perm (l.map (·.1)) ∧ Maps.size D = l.length := by
  obtain ⟨es, clock, hb, hs, hsl, hp⟩ := h
  have hlen : es.size = l.length := by simpa using hp.length_eq
  have hki := keys_int hp
  have hrd : ∀ e ∈ es.toList, ∃ j, e.key = .int .i64 j ∧ WideElems.rd P kt unread e = some (.int .i64 j, .nil) := by
    intro e he
    obtain ⟨j, a, h1, _, h3⟩ := hki e he
    exact ⟨j, h1, rg_int hk h1 (hw _ h3)⟩
  refine ⟨_, ⟨es, clock, hb, ⟨by omega, hs, fun e he => by obtain ⟨j, _, h2⟩ := hrd e he; exact ⟨_, h2⟩⟩, Nat.le_of_eq hlen, rfl⟩, ?_, ?_⟩
  · have p1 : (intKeys (DataW.map ((es.toList.map (rg P kt unread)).foldr DataW.insert []))).Perm ((es.toList.map (rg P kt unread)).map fun p => _root_.Go.intOf p.1) := by
      simp only [intKeys]
      exact (WideShapes.sorted_perm _).map _
    refine p1.trans ?_
    have e1 : (es.toList.map (rg P kt unread)).map (fun p => _root_.Go.intOf p.1) = (es.toList.map fun e => (e.key, e.val)).map fun q => litInt q.1 := by
      rw [List.map_map, List.map_map]
      apply List.map_congr_left
      intro e he
      obtain ⟨j, h1, h2⟩ := hrd e he
      simp [rg, h2, h1, litInt, _root_.Go.intOf]
    rw [e1]
    refine (hp.map _).trans ?_
    rw [List.map_map]
    exact List.Perm.of_eq rfl
  · simp [Maps.size, length_sorted, hlen]

theorem mergeSort_keys {α : Type} {l : List (Int × α)} (h : AL.Sorted l) {ss : List Int} (hp : ss.Perm (l.map (·.1))) : ss.mergeSort (fun x y => decide (x ≤ y)) = l.map (·.1) := by
  have h2 : (l.map (·.1)).Pairwise (fun a b => a ≤ b) := by
    rw [List.pairwise_map]; exact h.imp fun h => by omega
  have tr : ∀ a b c : Int, leI a b = true → leI b c = true → leI a c = true := fun a b c h1 h2 => by simp only [leI, decide_eq_true_eq] at *; exact Int.le_trans h1 h2
  have to : ∀ a b : Int, (leI a b || leI b a) = true := fun a b => by simp only [leI, Bool.or_eq_true, decide_eq_true_eq]; exact Int.le_total a b
  rw [mergeSort_of_perm_i hp]
  exact List.mergeSort_of_pairwise (h2.imp fun h => by simpa using h)

theorem sortsA (m : Nat) : AnyZI.SortsIn Try.prog Try.sortedA_ren Fence.wide m :=
  ⟨fun blk off cap ss W hH hblk hsz => callsIn_wide.2 (AnyM.slices_Sort_int Try.sortA blk off cap ss W hH hblk hsz),
   fun p cap W => callsIn_wide.2 (AnyM.slices_Sort_int_none Try.sortA p cap W)⟩

theorem keys_way (w : World) (mb : Option Nat) : Calls Try.prog 46 #[.map mb] w fun e w' => e = .returned (.func (.func 68) #[] #[.pointer (some ⟨w.heap.size, 0, none⟩)]) ∧ w.alloc (.cells #[.map mb] 77) = w' :=
  (callsIn_wide (n := 5)).1 ((AnyZI.keys_in Try.keysA Fence.wide 5 trivial rfl mb w).mono fun _ _ ⟨h1, h2⟩ => ⟨h1, h2.symm⟩)

set_option maxHeartbeats 1000000 in
theorem sorted_way {α : Type} (w : World) (b : Nat) (enc : α → Value) (l : List (Int × α)) (h : IsMap w b enc l) (hw : ∀ p ∈ l, wf64 p.1) (hl : l.length ≤ 65536) :
    Calls Try.prog 45 #[.func (.func 68) #[] #[.pointer (some ⟨w.heap.size, 0, none⟩)]] (w.alloc (.cells #[.map (some b)] 77)) fun e w' => ∃ v, e = .returned v ∧
      w'.ownsRow w.heap.size 3 1 v l.length (l.map fun p => .int .i64 p.1) ∧ Keep [] w w' := by
  obtain ⟨D, hown, hperm, hsize⟩ := h.owns Try.underlying3 hw (by unfold maxLen; omega)
  have hbl := hown.lt
  have hseq : SeqGives Fence.wide 2 Try.prog 68 #[.pointer (some ⟨w.heap.size, 0, none⟩)] encZ (fun ss => ss.Perm (intKeys D)) (Maps.size D) (w.alloc (.cells #[.map (some b)] 77)) :=
    AnyZI.keys_gives (ρ := Try.keysA_ren) { Try.keysA with } Fence.wide _ trivial rfl (by omega) w.heap.size b l.length D _ (by simp) (by simp) (by
      obtain ⟨es, clock, hb, Ft, hs, hD⟩ := hown
      exact ⟨es, clock, (Below.heap_alloc _ _ b hbl).trans hb, Ft, hs, hD⟩)
  have cS := AnyZI.sorted_in Try.sortedA Fence.wide 5 trivial trivial trivial trivial rfl (by omega) (sortsA _) (enters_of Try.func67 (by kernel_rfl) rfl) 68 #[.pointer (some ⟨w.heap.size, 0, none⟩)] trivial (enters_of Try.func68 (by kernel_rfl) rfl) _ _ (by rw [hsize]; unfold maxLen; omega) (by rw [hsize]; omega) _ hseq
  refine ((callsIn_wide (n := 5)).1 cS).mono fun e w' hpost => ?_
  obtain ⟨v, ss, rfl, hS, hrow, _, hb⟩ := hpost
  refine ⟨v, rfl, ?_, ((Keep.refl [] w).alloc _).then (Keep.of_below hb [])⟩
  have hp := hS.trans hperm
  have e1 := mergeSort_keys h.sorted hp
  have e2 : ss.length = l.length := by simpa using hp.length_eq
  rw [e1, e2] at hrow
  have := ownsRow_mono hrow (base' := w.heap.size) (by simp)
  rw [List.map_map] at this
  exact this

/-! ### Restart -/
def keepSome (s : List (Int × List Int)) : List (Int × List Int) → Int → List (Int × List Int)
  | [], _ => s
  | (k, a) :: r, q => keepSome (if q % 2 = 1 then AL.put k a s else s) r (q / 2)
def ADisk.restart (d : ADisk) (q : Int) : ADisk := { d with safe := keepSome d.safe d.way q, way := [], dn := false, p := -1 }

theorem drop_cons {α : Type} {l : List α} {j : Nat} (h : j < l.length) : l.drop j = l[j] :: l.drop (j + 1) := List.drop_eq_getElem_cons h
theorem keepSome_step {s l : List (Int × List Int)} {j : Nat} (h : j < l.length) (q : Int) : keepSome s (l.drop j) q = keepSome (if q % 2 = 1 then AL.put l[j].1 l[j].2 s else s) (l.drop (j + 1)) (q / 2) := by
  rw [drop_cons h]; rfl

theorem u64_half {q : Int} (h : 0 ≤ q) (h2 : q ≤ 18446744073709551615) : IntKind.u64.wrap (q.tdiv 2) = q / 2 := by
  rw [Int.tdiv_eq_ediv_of_nonneg h]
  simp only [IntKind.wrap, IntKind.bits, IntKind.signed, Bool.false_and, Bool.false_eq_true, if_false]
  omega
set_option maxRecDepth 100000 in
set_option maxHeartbeats 1000000 in
theorem Disk_Restart (w : World) (x s y : Nat) (d : ADisk) (q0 : Int) (h : DiskP w x s y d) (ok : d.Ok) (hlen : d.way.length ≤ 65536) (hq : 0 ≤ q0) (hq2 : q0 ≤ 18446744073709551615) :
    Calls Try.prog 19 #[.pointer (some ⟨x, 0, none⟩), .int .u64 q0] w fun e w' => e = .returned (.tuple #[]) ∧ DiskP w' x s y (d.restart q0) ∧ Keep [x, s, y] w w' := by
  obtain ⟨hc, hf, hx⟩ := cells_of h.obj
  have hwf : ∀ p ∈ d.way, wf64 p.1 := fun p hp => by
    have := ok.way p.1 p.2 ((AL.get_some_iff h.way.sorted).2 hp)
    have := ok.n
    exact wf64_of (by omega) (by omega)
  have HW := Lib.hid hwf
  have HO := Lib.hid ok
  have HQ := Lib.hid hq2
  clear hwf ok hq2
  go_enter Try.func19, Try.ntmps19
  go_wp2_with (first
    | (go_at_call 46; refine (keys_way _ _).mono ?_; rintro e w0 ⟨rfl, rfl⟩)
    | (go_at_call 45; refine (sorted_way w y encSec d.way h.way HW.out hlen).mono ?_; rintro e w1 ⟨v, rfl, hv, hk⟩
       obtain ⟨a, cap, rfl, hsh, hbase, hmax⟩ := own_shape hv))
  have h1 := h.keep hk (by simp) (by simp) (by simp)
  go_loopw [1, 15] (fun q i wr => ∃ (j : Nat) (qj : Int) (sj : List (Int × List Int)), j ≤ d.way.length ∧ i = .int .i64 j ∧ q = .int .u64 qj ∧ 0 ≤ qj ∧ Hid (qj ≤ 18446744073709551615) ∧ IsMap wr s encSec sj ∧
      Hid (keepSome sj (d.way.drop j) qj = keepSome d.safe d.way q0) ∧ Keep [s] w1 wr) (fun _ i _ => d.way.length - (vInt i).toNat)
  case atStart => exact ⟨0, q0, d.safe, Nat.zero_le _, rfl, rfl, hq, HQ, h1.safe, rfl, Keep.refl _ _⟩
  case round =>
    obtain ⟨j, qj, sj, hj, rfl, rfl, hq1, HQ1, hm, HE, hk1⟩ := hrel
    have hobj := hk1.at h1.obj (by simpa using h1.nes.1)
    have hway : IsMap wr y encSec d.way := h1.way.of_block (hk1.block y h1.lt.2.2 (by simpa using h1.ne.symm))
    by_cases hlt : j < d.way.length
    · obtain ⟨g, rfl, hcg⟩ := hsh j (.int .i64 d.way[j].1) (by simp [hlt])
      have hgs : g < w1.heap.size := block_lt_of_cell hcg
      have hgb := hbase _ rfl
      have hcg2 : wr.cell? ⟨g, j, none⟩ = some (.int .i64 d.way[j].1) := by
        rw [World.cell?_of_block (w := w1) (a := ⟨g, j, none⟩) (hk1.block g hgs (by have := h.lt; simp; simp at hgb; omega))]; exact hcg
      have hget : AL.get d.way[j].1 d.way = some d.way[j].2 := (AL.get_some_iff h.way.sorted).2 (List.getElem_mem hlt)
      have HG : Hid (((AL.get d.way[j].1 d.way).map encSec).getD (encSec zeros) = encSec d.way[j].2) := by simp [Hid, hget]
      obtain ⟨hc2, hf2, hx2⟩ := cells_of hobj
      have HH := Lib.hid h
      have HSH := Lib.hid hsh
      have hs1 := hk1.size
      clear hsh hbase hcg hget h hc hf hv
      have hnext := keepSome_step (s := sj) hlt qj
      by_cases hodd : qj % 2 = 1
      · have hb : (qj % 2 == 1) = true := by simp [hodd]
        rw [if_pos hodd] at hnext
        have HN := Lib.hid hnext
        have hh := u64_half hq1 HQ1.out
        clear hnext hodd
        go_wp2
        refine wp_region_still_tail 11 (by kernel_rfl) (by kernel_rfl) ?_
        change wpStill _ _ wr.drew (fun a' => wpList _ _ _ _ a' wr.drew) _ _
        have hcd : ∀ j, wr.drew.cell? ⟨x, j, none⟩ = _ := hc2
        have hwd : IsMap wr.drew y encSec d.way := hway.drew
        have hmd : IsMap wr.drew s encSec sj := hm.drew
        have hkd : Keep [s] wr wr.drew := (Keep.refl _ _).drew
        have HC := Lib.hid hcd
        have hsz : wr.drew.heap.size = wr.heap.size := rfl
        have HSZ := Lib.hid hsz
        clear hc2 hf2 hx2 hway hm hcg2 hcd hsz
        generalize wr.drew = w3 at *
        have hc3 := HC.out
        simp only [List.take_succ_cons, List.take_zero, List.drop_succ_cons, List.drop_zero]
        iterate 10 still_step
        refine wpStill_lookup_im rfl _ _ 77 false rfl Try.underlying77 Try.underlying3 _ (zero_sector _) rfl _ rfl hwd ?_
        rw [HG.out]
        refine wpStill_nil ?_
        go_wp2_with (at_mapUpdate; refine wpList_mapUpdate_im rfl _ _ _ 77 rfl Try.underlying77 Try.underlying3 rfl _ rfl d.way[j].2 rfl hmd ?_; intro w4 hm4 hk4 hs4)
        go_roundw
        case rel => exact ⟨j + 1, qj / 2, _, by omega, by go_num, rfl, by omega, by have := HQ1.out; unfold Hid; omega, hm4, by unfold Hid; rw [← HN.out]; exact HE.out, (hk1.trans hkd (fun _ h => h) (fun _ h => .inl h)).trans hk4 (fun _ h => h) (fun _ h => .inl h)⟩
        case measure => simp only [vInt]; omega
      · have hb : (qj % 2 == 1) = false := by simp; omega
        rw [if_neg hodd] at hnext
        have HN := Lib.hid hnext
        have hh := u64_half hq1 HQ1.out
        clear hnext hodd
        go_wp2
        go_roundw
        case rel => exact ⟨j + 1, qj / 2, sj, by omega, by go_num, rfl, by omega, by have := HQ1.out; unfold Hid; omega, hm, by unfold Hid; rw [← HN.out]; exact HE.out, hk1⟩
        case measure => simp only [vInt]; omega
    · obtain rfl : j = d.way.length := by omega
      have HE2 : Hid (sj = keepSome d.safe d.way q0) := by
        have := HE.out
        rw [List.drop_length] at this
        exact this
      have hm2 := hm
      rw [HE2.out] at hm2
      obtain ⟨hc2, hf2, hx2⟩ := cells_of hobj
      have HH := Lib.hid h
      have hne := Lib.hid h.ne
      have hnes := Lib.hid h.nes
      clear hc hf h hsh HE
      go_wp2_with ((with_reducible refine wpList_clear_im rfl _ 77 rfl Try.underlying77 ?_ hway ?_); go_must (rfl); intro w3 h3 hk3 hs3
                   have hobj3 := hk3.at hobj (by simpa using hnes.out.2)
                   obtain ⟨hc3, hf3, hx3⟩ := cells_of hobj3
                   clear hc2 hf2 hx2)
      go_end0
      have hD : DiskP w3 x s y ⟨d.n, keepSome d.safe d.way q0, [], d.p, d.dn⟩ := ⟨hobj3, hm2.of_block (hk3.block s hm2.lt (by simpa using hne.out)), h3, hne.out⟩
      have k3 : Keep [x, s, y] w w3 := ((hk.mono (T := [x, s, y]) (by simp)).trans hk1 (U := [x, s, y]) (fun _ h => h) (by simp)).trans hk3 (fun _ h => h) (by simp)
      obtain ⟨hD4, k4⟩ := hD.down false
      obtain ⟨hD5, k5⟩ := hD4.power (-1)
      exact ⟨rfl, hD5, (k3.trans k4 (fun _ h => h) (by simp)).trans k5 (fun _ h => h) (by simp)⟩
end Go.Proofs.Ytaldkgnpkeekhaa
