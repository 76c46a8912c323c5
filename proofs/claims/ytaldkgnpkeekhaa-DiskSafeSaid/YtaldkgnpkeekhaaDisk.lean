/-
  Contracts of package disk: each call on a disk does to its block and its two maps what the abstract disk says.
-/
import Derived.Test.YtaldkgnpkeekhaaRows
import Derived.Test.YtaldkgnpkeekhaaRows2
namespace Go.Proofs.Ytaldkgnpkeekhaa
open Go.RowKit Go.MapKept

def encSec (l : List Int) : Value := .agg (bytes l).toArray

structure ADisk where
  n : Int
  safe : List (Int × List Int)
  way : List (Int × List Int)
  p : Int
  dn : Bool

def diskObj (d : ADisk) (s y : Nat) : Obj := .cells #[.int .i64 d.n, .map (some s), .map (some y), .int .i64 d.p, .bool d.dn] 79 (0, 0)

structure DiskP (w : World) (x s y : Nat) (d : ADisk) : Prop where
  obj : w.heap[x]? = some (diskObj d s y)
  safe : IsMap w s encSec d.safe
  way : IsMap w y encSec d.way
  ne : s ≠ y

theorem DiskP.lt {w : World} {x s y : Nat} {d : ADisk} (h : DiskP w x s y d) : x < w.heap.size ∧ s < w.heap.size ∧ y < w.heap.size :=
  ⟨lt_of_block h.obj, h.safe.lt, h.way.lt⟩
theorem DiskP.nes {w : World} {x s y : Nat} {d : ADisk} (h : DiskP w x s y d) : x ≠ s ∧ x ≠ y := by
  obtain ⟨_, _, h1, _⟩ := h.safe
  obtain ⟨_, _, h2, _⟩ := h.way
  have h3 := h.obj
  constructor
  · rintro rfl; rw [h1] at h3; cases h3
  · rintro rfl; rw [h2] at h3; cases h3
theorem DiskP.keep {w w' : World} {x s y : Nat} {d : ADisk} {S : List Nat} (h : DiskP w x s y d) (k : Keep S w w') (h1 : x ∉ S) (h2 : s ∉ S) (h3 : y ∉ S) : DiskP w' x s y d :=
  ⟨k.at h.obj h1, h.safe.of_block (k.block s h.lt.2.1 h2), h.way.of_block (k.block y h.lt.2.2 h3), h.ne⟩

/-- the wrong sectors -/
def ADisk.wrong (d : ADisk) (i : Int) : Int := if d.dn then 14 else if i < 0 ∨ d.n ≤ i then 1 else 0

theorem Disk_wrong (w : World) (x s y : Nat) (d : ADisk) (i : Int) (h : DiskP w x s y d) :
    Calls Try.prog 42 #[.pointer (some ⟨x, 0, none⟩), .int .i64 i] w fun e w' => e = .returned (.int .i64 (d.wrong i)) ∧ w = w' := by
  obtain ⟨hc, hf, hx⟩ := cells_of h.obj
  obtain ⟨n, _, _, p, dn⟩ := d
  clear h
  cases dn
  · by_cases hi : i < 0
    · go_enter Try.func42, Try.ntmps42
      go_wp2
      go_ret
      exact ⟨by simp [ADisk.wrong, hi], rfl⟩
    · by_cases hn : n ≤ i
      · go_enter Try.func42, Try.ntmps42
        go_wp2
        go_ret
        exact ⟨by simp [ADisk.wrong, hn], rfl⟩
      · go_enter Try.func42, Try.ntmps42
        go_wp2
        go_ret
        exact ⟨by simp [ADisk.wrong, hi, hn], rfl⟩
  · go_enter Try.func42, Try.ntmps42
    go_wp2
    go_ret
    exact ⟨rfl, rfl⟩

/-- power that is spent -/
def ADisk.spend (d : ADisk) : ADisk := if d.p = 0 then { d with dn := true } else if 0 < d.p then { d with p := d.p - 1 } else d

theorem Disk_spend (w : World) (x s y : Nat) (d : ADisk) (h : DiskP w x s y d) (h1 : -1 ≤ d.p) (h2 : d.p ≤ 9223372036854775807) :
    Calls Try.prog 47 #[.pointer (some ⟨x, 0, none⟩)] w fun e w' => e = .returned (.bool (decide (d.p ≠ 0))) ∧ DiskP w' x s y d.spend ∧ Keep [x] w w' := by
  obtain ⟨hc, hf, hx⟩ := cells_of h.obj
  have HD := Lib.hid h
  obtain ⟨n, sf, wy, p, dn⟩ := d
  simp only at h1 h2
  clear h
  by_cases hp : p = 0
  · subst hp
    go_enter Try.func47, Try.ntmps47
    go_wp2
    go_ret
    have k : Keep [x] w (w.setCell ⟨x, 4, none⟩ (.bool true)) := (Keep.refl _ _).setCell _ _ (by simp)
    have h := HD.out
    refine ⟨rfl, ⟨?_, h.safe.of_block (k.block s h.lt.2.1 (by simpa using h.nes.1.symm)), h.way.of_block (k.block y h.lt.2.2 (by simpa using h.nes.2.symm)), h.ne⟩, k⟩
    exact heap_setCell_same w x 4 _ _ _ h.obj
  · by_cases hp2 : p = -1
    · subst hp2
      go_enter Try.func47, Try.ntmps47
      go_wp2
      go_ret
      exact ⟨rfl, HD.out, Keep.refl _ _⟩
    · have hp3 : 0 < p := by omega
      go_enter Try.func47, Try.ntmps47
      go_wp2
      go_ret
      have k : Keep [x] w (w.setCell ⟨x, 3, none⟩ (.int .i64 (p - 1))) := (Keep.refl _ _).setCell _ _ (by simp)
      have h := HD.out
      refine ⟨by simp, ⟨?_, ?_, ?_, h.ne⟩, k⟩
      · have := heap_setCell_same w x 3 _ _ (.int .i64 (p - 1)) h.obj
        simpa [diskObj, ADisk.spend, hp, hp3] using this
      · simpa [ADisk.spend, hp, hp3] using h.safe.of_block (k.block s h.lt.2.1 (by simpa using h.nes.1.symm))
      · simpa [ADisk.spend, hp, hp3] using h.way.of_block (k.block y h.lt.2.2 (by simpa using h.nes.2.symm))

theorem Disk_Sectors (w : World) (x s y : Nat) (d : ADisk) (h : DiskP w x s y d) :
    Calls Try.prog 17 #[.pointer (some ⟨x, 0, none⟩)] w fun e w' => e = .returned (.int .i64 d.n) ∧ w = w' := by
  obtain ⟨hc, hf, hx⟩ := cells_of h.obj
  clear h
  go_enter Try.func17, Try.ntmps17
  go_wp2
  go_ret
  exact ⟨rfl, rfl⟩
theorem Disk_Sectors_nil (w : World) : Calls Try.prog 17 #[.pointer none] w fun e w' => e = .returned (.int .i64 0) ∧ w = w' := by
  go_enter Try.func17, Try.ntmps17
  go_wp2
  go_ret
  exact ⟨rfl, rfl⟩
theorem Disk_Down (w : World) (x s y : Nat) (d : ADisk) (h : DiskP w x s y d) :
    Calls Try.prog 15 #[.pointer (some ⟨x, 0, none⟩)] w fun e w' => e = .returned (.bool d.dn) ∧ w = w' := by
  obtain ⟨hc, hf, hx⟩ := cells_of h.obj
  clear h
  go_enter Try.func15, Try.ntmps15
  go_wp2
  go_ret
  exact ⟨rfl, rfl⟩
theorem Disk_Down_nil (w : World) : Calls Try.prog 15 #[.pointer none] w fun e w' => e = .returned (.bool true) ∧ w = w' := by
  go_enter Try.func15, Try.ntmps15
  go_wp2
  go_ret
  exact ⟨rfl, rfl⟩
theorem run_len_map {w : World} {b : Nat} {t ty : TypeId} {α : Type} {enc : α → Value} {l : List (Int × α)} {k e : TypeId} (ht : Try.prog.underlying t = some (.map k e)) (h : IsMap w b enc l) :
    (Builtin.len_ #[t] ty #[.map (some b)]).run Try.prog w = .ok (.int .i64 l.length) w := by
  obtain ⟨es, clock, hb, he⟩ := h.length
  simp [Builtin.len_, run_underlying ht, run_getObj_map hb, he, goInt]
theorem Disk_Waiting (w : World) (x s y : Nat) (d : ADisk) (h : DiskP w x s y d) :
    Calls Try.prog 16 #[.pointer (some ⟨x, 0, none⟩)] w fun e w' => e = .returned (.int .i64 d.way.length) ∧ w = w' := by
  obtain ⟨hc, hf, hx⟩ := cells_of h.obj
  have hl : ∀ ty, (Builtin.len_ #[77] ty #[.map (some y)]).run Try.prog w = .ok (.int .i64 d.way.length) w := fun ty => run_len_map Try.underlying77 h.way
  clear h
  go_enter Try.func16, Try.ntmps16
  go_wp2
  go_ret
  exact ⟨rfl, rfl⟩
theorem Disk_Waiting_nil (w : World) : Calls Try.prog 16 #[.pointer none] w fun e w' => e = .returned (.int .i64 0) ∧ w = w' := by
  go_enter Try.func16, Try.ntmps16
  go_wp2
  go_ret
  exact ⟨rfl, rfl⟩

def ADisk.arm (d : ADisk) (n : Int) : ADisk := if d.dn then d else { d with p := max 0 n }
theorem DiskP.power {w : World} {x s y : Nat} {d : ADisk} (h : DiskP w x s y d) (q : Int) : DiskP (w.setCell ⟨x, 3, none⟩ (.int .i64 q)) x s y { d with p := q } ∧ Keep [x] w (w.setCell ⟨x, 3, none⟩ (.int .i64 q)) := by
  have k : Keep [x] w (w.setCell ⟨x, 3, none⟩ (.int .i64 q)) := (Keep.refl _ _).setCell _ _ (by simp)
  exact ⟨⟨heap_setCell_same w x 3 _ _ (.int .i64 q) h.obj, h.safe.of_block (k.block s h.lt.2.1 (by simpa using h.nes.1.symm)), h.way.of_block (k.block y h.lt.2.2 (by simpa using h.nes.2.symm)), h.ne⟩, k⟩
theorem DiskP.down {w : World} {x s y : Nat} {d : ADisk} (h : DiskP w x s y d) (q : Bool) : DiskP (w.setCell ⟨x, 4, none⟩ (.bool q)) x s y { d with dn := q } ∧ Keep [x] w (w.setCell ⟨x, 4, none⟩ (.bool q)) := by
  have k : Keep [x] w (w.setCell ⟨x, 4, none⟩ (.bool q)) := (Keep.refl _ _).setCell _ _ (by simp)
  exact ⟨⟨heap_setCell_same w x 4 _ _ (.bool q) h.obj, h.safe.of_block (k.block s h.lt.2.1 (by simpa using h.nes.1.symm)), h.way.of_block (k.block y h.lt.2.2 (by simpa using h.nes.2.symm)), h.ne⟩, k⟩
theorem Disk_Arm (w : World) (x s y : Nat) (d : ADisk) (h : DiskP w x s y d) (n : Int) :
    Calls Try.prog 18 #[.pointer (some ⟨x, 0, none⟩), .int .i64 n] w fun e w' => e = .returned (.tuple #[]) ∧ DiskP w' x s y (d.arm n) ∧ Keep [x] w w' := by
  obtain ⟨hc, hf, hx⟩ := cells_of h.obj
  have HD := Lib.hid h
  obtain ⟨m, sf, wy, p, dn⟩ := d
  clear h
  cases dn
  · go_enter Try.func18, Try.ntmps18
    go_wp2
    · go_end0
      refine ⟨rfl, ?_⟩
      have := HD.out.power n
      rwa [show ADisk.arm _ n = _ from by simp [ADisk.arm, show max 0 n = n by omega]; rfl]
    · go_end0
      refine ⟨rfl, ?_⟩
      have := HD.out.power 0
      rwa [show ADisk.arm _ n = _ from by simp [ADisk.arm, show max 0 n = 0 by omega]; rfl]
  · go_enter Try.func18, Try.ntmps18
    go_wp2
    go_end0
    exact ⟨rfl, HD.out, Keep.refl _ _⟩
theorem Disk_Arm_nil (w : World) (n : Int) : Calls Try.prog 18 #[.pointer none, .int .i64 n] w fun e w' => e = .returned (.tuple #[]) ∧ w = w' := by
  go_enter Try.func18, Try.ntmps18
  go_wp2
  go_end0
  exact ⟨rfl, rfl⟩

/-! ### New -/
theorem disk_New_no (w : World) (n : Int) (h : n < 1 ∨ 65536 < n) :
    Calls Try.prog 9 #[.int .i64 n] w fun e w' => e = .returned (.tuple #[.pointer none, .int .i64 1]) ∧ w = w' := by
  rcases h with h | h
  · go_enter Try.func9, Try.ntmps9
    go_wp2
    go_ret2
    exact ⟨rfl, rfl⟩
  · have h' : ¬ n < 1 := by omega
    go_enter Try.func9, Try.ntmps9
    go_wp2
    go_ret2
    exact ⟨rfl, rfl⟩
theorem disk_New (w : World) (n : Int) (h1 : 1 ≤ n) (h2 : n ≤ 65536) :
    Calls Try.prog 9 #[.int .i64 n] w fun e w' => e = .returned (.tuple #[.pointer (some ⟨w.heap.size + 2, 0, none⟩), .int .i64 0]) ∧
      DiskP w' (w.heap.size + 2) w.heap.size (w.heap.size + 1) ⟨n, [], [], -1, false⟩ ∧ Keep [] w w' := by
  have hmm := @run_makeMap Try.prog
  go_enter Try.func9, Try.ntmps9
  go_wp2
  go_ret2
  exact ⟨rfl, ⟨heap_alloc_at _ _ (by simp), ((IsMap.made w encSec).other _).other _, (IsMap.made_at _ encSec (by simp)).other _, by simp⟩, (((Keep.refl _ _).alloc _).alloc _).alloc _⟩

/-! ### slices.Clone of bytes -/
theorem info_bytes : (Try.prog.info? 5).map (fun i => (i.zero, i.size, i.bytes)) = some (some (.int .u8 0), 1, 1) := by kernel_rfl
theorem Clone_bytes_nil (w : World) : Calls Try.prog 43 #[.slice none 0 0] w fun e w' => e = .returned (.slice none 0 0) ∧ w = w' := by
  have hn := @Lib.run_eql_slice_nil Try.prog
  go_enter Try.func43, Try.ntmps43
  go_wp2
  go_ret
  exact ⟨rfl, rfl⟩
theorem Clone_bytes (w : World) (a : Addr) (n cap : Nat) (xs : List Value) (hl : xs.length = n * 1) (hc : ∀ j u, xs[j]? = some u → w.cell? (a.add j) = some u) (h1 : ∀ u ∈ xs, u.oneCell' = true) (hm : n ≤ maxLen) (hb : n * 1 ≤ 140737488355328) :
    Calls Try.prog 43 #[.slice (some a) n cap] w fun e w' => ∃ v, e = .returned v ∧ w'.ownsRow w.heap.size 5 1 v n xs ∧ v ≠ .slice none 0 0 ∧ Keep [] w w' := by
  have hn : ∀ w, (binOp .eql 34 (.slice (some a) n cap) (.slice none 0 0)).run Try.prog w = .ok (.bool false) w := fun w => Lib.run_eql_slice_nil w _ _ _ _ _ _ _ Try.underlying34
  obtain ⟨i0, hi, hz0, hz1, hz2⟩ := info_parts info_bytes
  have HC := Lib.hid hc
  have HB := Lib.hid hb
  have HM := Lib.hid hm
  have H1 := Lib.hid h1
  clear hc hb hm h1
  go_enter Try.func43, Try.ntmps43
  go_wp2_with (at_builtin; refine wpList_append_own _ rfl _ _ 34 rfl w.heap.size 5 i0 (.int .u8 0) 1 1 Try.underlying34 hi hz0 hz1 hz2 rfl (by decide) _ 0 [] rfl ?own a n cap xs rfl hl ?news H1.out ?len ?byt ?base ?_)
  case own => exact ⟨by simp, .inr ⟨w.heap.size, 0, #[], rfl, Nat.le_refl _, by first | exact heap_alloc_new w _ | simp, by simp, by simp, by simp, by simp⟩⟩
  case news =>
    intro j u hu
    exact cell_alloc (HC.out j u hu) _
  case len => simpa using HM.out
  case byt => simpa using HB.out
  case base => simp
  intro v' w' hown hgr hnil
  go_wp2
  go_ret
  exact ⟨v', rfl, hown, hnil, ((Keep.refl _ _).alloc _).grown hgr (by simp [Value.ownBlock])⟩


/-! ### Read -/
def zeros : List Int := List.replicate 32 0
def ADisk.at (d : ADisk) (i : Int) : List Int := ((AL.get i d.way).or (AL.get i d.safe)).getD zeros
/-- what a disk keeps: sectors of 32 bytes -/
structure ADisk.Ok (d : ADisk) : Prop where
  way : ∀ i l, AL.get i d.way = some l → l.length = 32 ∧ 0 ≤ i ∧ i < d.n
  safe : ∀ i l, AL.get i d.safe = some l → l.length = 32 ∧ 0 ≤ i ∧ i < d.n
  n : d.n ≤ 65536
  p : -1 ≤ d.p
  p2 : d.p ≤ 9223372036854775807

theorem cellsOf_sector : (Try.prog.info? 82).map (·.size) = some 32 := by kernel_rfl
theorem Disk_Read_no (w : World) (x s y : Nat) (d : ADisk) (i : Int) (h : DiskP w x s y d) (hw : d.wrong i ≠ 0) :
    Calls Try.prog 12 #[.pointer (some ⟨x, 0, none⟩), .int .i64 i] w fun e w' => e = .returned (.tuple #[.slice none 0 0, .int .i64 (d.wrong i)]) ∧ w = w' := by
  go_enter Try.func12, Try.ntmps12
  go_wp2_with (go_at_call 42; refine (Disk_wrong _ _ _ _ _ _ h).mono ?_; rintro e w' ⟨rfl, rfl⟩)
  go_ret2
  exact ⟨rfl, rfl⟩
theorem zero_sector (w : World) : (zeroValue 82).run Try.prog w = .ok (encSec zeros) w := Try.zeroValue82 w
theorem size_sector {l : List Int} (h : l.length = 32) : (Try.prog.info? 82).map (·.size) = some (bytes l).toArray.size := by
  rw [cellsOf_sector]; simp [bytes, h]
theorem ADisk.at_length {d : ADisk} (ok : d.Ok) (i : Int) : (d.at i).length = 32 := by
  unfold ADisk.at
  cases h : AL.get i d.way with
  | some l => simpa using (ok.way i l h).1
  | none =>
    cases h2 : AL.get i d.safe with
    | some l => simpa using (ok.safe i l h2).1
    | none => simp [zeros]
theorem cells_at {w : World} {b : Nat} {l : List Value} {t : TypeId} {fr : Nat × Nat} (h : w.heap[b]? = some (.cells l.toArray t fr)) : ∀ j u, l[j]? = some u → w.cell? ((⟨b, 0, none⟩ : Addr).add j) = some u := by
  intro j u hu
  have : (⟨b, 0, none⟩ : Addr).add j = ⟨b, j, none⟩ := by unfold Addr.add; split <;> simp_all
  rw [this, cell_of_row w b j _ t fr h]; simpa using hu
theorem zeros_len : zeros.length = 32 := rfl
theorem Disk_Read_yes (w : World) (x s y : Nat) (d : ADisk) (i : Int) (h : DiskP w x s y d) (ok : d.Ok) (hw : d.wrong i = 0) :
    Calls Try.prog 12 #[.pointer (some ⟨x, 0, none⟩), .int .i64 i] w fun e w' => ∃ v, e = .returned (.tuple #[v, .int .i64 0]) ∧ w'.ownsRow w.heap.size 5 1 v 32 (bytes (d.at i)) ∧ Keep [] w w' := by
  obtain ⟨hc, hf, hx⟩ := cells_of h.obj
  cases hg : AL.get i d.way with
  | some l =>
    obtain ⟨hl, _⟩ := ok.way i l hg
    have e : d.at i = l := by simp [ADisk.at, hg]
    rw [e]
    have HG := Lib.hid hg
    have HW := Lib.hid hw
    have HL := Lib.hid hl
    clear hg hw hl ok e
    go_enter Try.func12, Try.ntmps12
    go_wp2_with (first
      | (go_at_call 42; refine (Disk_wrong _ _ _ _ _ _ h).mono ?_; rw [HW.out]; rintro e w' ⟨rfl, rfl⟩)
      | (at_lookup; refine wpList_lookup_im rfl _ _ 77 true rfl Try.underlying77 Try.underlying3 _ (zero_sector _) rfl i rfl h.way ?_; rw [HG.out]; simp only [Option.map_some, Option.getD_some, encSec])
      | ((with_reducible refine wpList_store_new rfl 82 _ _ rfl (bytes l).toArray ?_ ?_ (size_sector HL.out) ?_ ?_ ?_); go_must (rfl); go_must (rfl); go_must (exact (by simp [bytes, HL.out])); go_must (exact bytes_all l))
      | (go_at_call 43; refine (Clone_bytes _ ⟨w.heap.size, 0, none⟩ 32 32 (bytes l) (by simp [bytes, HL.out]) (cells_at (heap_alloc_new w _)) (bytes_one l) (by decide) (by decide)).mono ?_; rintro e w' ⟨v, rfl, hv, hn, hk⟩))
    go_ret2
    exact ⟨v, rfl, ownsRow_mono hv (by simp), ((Keep.refl _ _).alloc _).then hk⟩
  | none =>
    obtain ⟨l, hl⟩ : ∃ l, l = (AL.get i d.safe).getD zeros := ⟨_, rfl⟩
    have e : d.at i = l := by simp [ADisk.at, hg, hl]
    have hlen : l.length = 32 := by rw [← e]; exact ADisk.at_length ok i
    have hlk : ((AL.get i d.safe).map encSec).getD (encSec zeros) = encSec l := by rw [hl]; cases AL.get i d.safe <;> rfl
    rw [e]
    have HG := Lib.hid hg
    have HW := Lib.hid hw
    have HL := Lib.hid hlen
    have HK := Lib.hid hlk
    clear hg hw hl hlen ok e hlk
    go_enter Try.func12, Try.ntmps12
    go_wp2_with (first
      | (go_at_call 42; refine (Disk_wrong _ _ _ _ _ _ h).mono ?_; rw [HW.out]; rintro e w' ⟨rfl, rfl⟩)
      | (at_lookup; refine wpList_lookup_im rfl _ _ 77 true rfl Try.underlying77 Try.underlying3 _ (zero_sector _) rfl i rfl h.way ?_; rw [HG.out]; simp only [Option.map_none, Option.getD_none, encSec])
      | (at_lookup; (refine wpList_lookup_im rfl _ _ 77 false rfl Try.underlying77 Try.underlying3 _ (zero_sector _) rfl i rfl (h.safe.other _) ?_); rw [HK.out]; simp only [encSec])
      | ((with_reducible refine wpList_store_new rfl 82 _ (.tmp 22) rfl (bytes zeros).toArray ?_ ?_ (size_sector zeros_len) ?_ ?_ ?_); go_must (rfl); go_must (rfl); go_must (exact (by simp [bytes, zeros])); go_must (exact bytes_all _))
      | ((with_reducible refine wpList_store_new rfl 82 _ (.tmp 31) rfl (bytes l).toArray ?_ ?_ (size_sector HL.out) ?_ ?_ ?_); go_must (rfl); go_must (rfl); go_must (exact (by simp [bytes, zeros, HL.out])); go_must (exact bytes_all l))
      | (go_at_call 43; refine (Clone_bytes _ ⟨w.heap.size, 0, none⟩ 32 32 (bytes l) (by simp [bytes, HL.out]) (cells_at (heap_alloc_new w _)) (bytes_one l) (by decide) (by decide)).mono ?_; rintro e w' ⟨v, rfl, hv, hn, hk⟩))
    go_ret2
    exact ⟨v, rfl, ownsRow_mono hv (by simp), ((Keep.refl _ _).alloc _).then hk⟩
end Go.Proofs.Ytaldkgnpkeekhaa
