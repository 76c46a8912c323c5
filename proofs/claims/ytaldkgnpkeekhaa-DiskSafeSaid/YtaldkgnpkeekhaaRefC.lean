/-
  The reference's disk (ref22.Disk) in memory, and its calls: Begin, Read, spend, Arm.
-/
import Derived.Test.YtaldkgnpkeekhaaRefB
import Derived.Test.YtaldkgnpkeekhaaDiskE
namespace Go.Proofs.Ytaldkgnpkeekhaa
open Go.RowKit Go.MapKept

namespace AL
variable {α β : Type}
theorem isSome_iff {k : Int} {l : List (Int × α)} : (get k l).isSome = true ↔ k ∈ l.map (·.1) := by
  cases h : get k l with
  | none => rw [get_none_iff] at h; simp; intro x hx; exact h _ hx rfl
  | some a =>
    simp only [Option.isSome_some, true_iff]
    by_cases hc : k ∈ l.map (·.1)
    · exact hc
    · have : get k l = none := get_none_iff.2 fun p hp e => hc (List.mem_map.2 ⟨p, hp, e⟩)
      rw [h] at this; cases this
theorem keys_put {k : Int} {a : α} {b : β} : ∀ {l : List (Int × α)} {m : List (Int × β)}, l.map (·.1) = m.map (·.1) → (put k a l).map (·.1) = (put k b m).map (·.1)
  | [], [], _ => rfl
  | [], _ :: _, h => by simp at h
  | _ :: _, [], h => by simp at h
  | (i, x) :: r, (j, y) :: t, h => by
    simp only [List.map_cons, List.cons.injEq] at h
    obtain ⟨rfl, h⟩ := h
    simp only [put]
    split
    · simp [h]
    · split
      · simp [h]
      · rw [List.map_cons, List.map_cons, keys_put (a := a) (b := b) h]
theorem isSome_keys {k : Int} {l : List (Int × α)} {m : List (Int × β)} (h : l.map (·.1) = m.map (·.1)) : (get k l).isSome = (get k m).isSome := by
  rw [Bool.eq_iff_iff, isSome_iff, isSome_iff, h]
end AL

/-- the slice sv of sectors, in memory -/
abbrev Sl.val (s : Sl) : Value := .slice s.a s.n s.c
structure Secs (w : World) (v : Sl) (l : List (Int × List Int)) (L : List (Int × Sl)) : Prop where
  row : SecRow w 0 v.val L
  keys : L.map (·.1) = l.map (·.1)
  sorted : AL.Sorted l
  data : ∀ k s b, AL.get k L = some s → AL.get k l = some b → w.ownsRow 0 5 1 s.val b.length (bytes b)

/-- a block that holds none of the reference's data -/
def NoRef (w : World) (b : Nat) : Prop := ∀ cs t fr, w.heap[b]? = some (.cells cs t fr) → t ≠ 40 ∧ t ≠ 109 ∧ t ≠ 5
def NoData (w : World) (b : Nat) : Prop := ∀ cs t fr, w.heap[b]? = some (.cells cs t fr) → t ≠ 109 ∧ t ≠ 5
theorem Secs.keep {w w' : World} {v : Sl} {l : List (Int × List Int)} {L : List (Int × Sl)} {S : List Nat} (h : Secs w v l L) (k : Keep S w w') (hS : ∀ b ∈ S, NoData w b) : Secs w' v l L :=
  ⟨own_keep h.row k fun b hb cs fr e => (hS b hb cs _ fr e).1 rfl, h.keys, h.sorted, fun i s b h1 h2 => own_keep (h.data i s b h1 h2) k fun b hb cs fr e => (hS b hb cs _ fr e).2 rfl⟩
theorem Secs.sortedL {w : World} {v : Sl} {l : List (Int × List Int)} {L : List (Int × Sl)} (h : Secs w v l L) : AL.Sorted L := by
  have h1 := h.sorted
  have h2 := h.keys
  have h3 : (l.map (·.1)).Pairwise (fun a b : Int => a < b) := by rw [List.pairwise_map]; exact h1
  rw [← h2, List.pairwise_map] at h3
  exact h3
theorem Secs.length {w : World} {v : Sl} {l : List (Int × List Int)} {L : List (Int × Sl)} (h : Secs w v l L) : L.length = l.length := by
  have := congrArg List.length h.keys; simpa using this

def refObj (d : ADisk) (sv yv : Sl) : Obj := .cells #[.int .i64 d.n, .slice sv.a sv.n sv.c, .slice yv.a yv.n yv.c, .int .i64 d.p, .bool d.dn] 40 (0, 0)
/-- the reference's disk in block m -/
structure RefD (w : World) (m : Nat) (d : ADisk) (sv yv : Sl) (Ls Ly : List (Int × Sl)) : Prop where
  obj : w.heap[m]? = some (refObj d sv yv)
  safe : Secs w sv d.safe Ls
  way : Secs w yv d.way Ly
/-- the reference's disk in block m, wherever its lists lie -/
def RefDisk (w : World) (m : Nat) (d : ADisk) : Prop := ∃ sv yv Ls Ly, RefD w m d sv yv Ls Ly
theorem RefD.disk {w : World} {m : Nat} {d : ADisk} {sv yv : Sl} {Ls Ly : List (Int × Sl)} (h : RefD w m d sv yv Ls Ly) : RefDisk w m d := ⟨_, _, _, _, h⟩
theorem RefD.keep {w w' : World} {m : Nat} {d : ADisk} {sv yv : Sl} {Ls Ly : List (Int × Sl)} {S : List Nat} (h : RefD w m d sv yv Ls Ly) (k : Keep S w w') (hS : ∀ b ∈ S, NoRef w b) : RefD w' m d sv yv Ls Ly :=
  ⟨k.at h.obj (fun q => (hS m q _ _ _ h.obj).1 rfl), h.safe.keep k fun b hb cs t fr e => (hS b hb cs t fr e).2, h.way.keep k fun b hb cs t fr e => (hS b hb cs t fr e).2⟩
theorem RefD.noData {w : World} {m : Nat} {d : ADisk} {sv yv : Sl} {Ls Ly : List (Int × Sl)} (h : RefD w m d sv yv Ls Ly) : NoData w m := by
  intro cs t fr e
  rw [h.obj] at e
  cases e
  decide
theorem DiskP.noRef {w : World} {x s y : Nat} {d : ADisk} (h : DiskP w x s y d) : ∀ b ∈ [x, s, y], NoRef w b := by
  intro b hb cs t fr e
  simp only [List.mem_cons, List.not_mem_nil, or_false] at hb
  rcases hb with rfl | rfl | rfl
  · rw [h.obj] at e; cases e; decide
  · obtain ⟨_, _, h1, _⟩ := h.safe; rw [h1] at e; cases e
  · obtain ⟨_, _, h1, _⟩ := h.way; rw [h1] at e; cases e
theorem DiskP.keepRef {w w' : World} {x s y m : Nat} {d d' : ADisk} {sv yv : Sl} {Ls Ly : List (Int × Sl)} (h : DiskP w x s y d) (r : RefD w m d' sv yv Ls Ly) (k : Keep [m] w w') : DiskP w' x s y d := by
  have hm : ∀ b ∈ [x, s, y], b ≠ m := by
    rintro b hb rfl
    exact (h.noRef b hb _ _ _ r.obj).1 rfl
  exact h.keep k (by simpa using hm x (by simp)) (by simpa using hm s (by simp)) (by simpa using hm y (by simp))

theorem ref22_Begin (w : World) (n : Int) :
    Calls Try.prog 10 #[.int .i64 n] w fun e w' => e = .returned (.pointer (some ⟨w.heap.size, 0, none⟩)) ∧ RefD w' w.heap.size ⟨n, [], [], -1, false⟩ ⟨none, 0, 0⟩ ⟨none, 0, 0⟩ [] [] ∧ Keep [] w w' := by
  go_enter Try.func10, Try.ntmps10
  go_wp2
  go_ret
  refine ⟨rfl, ⟨heap_alloc_new w _, ⟨own_nil _ _ _ _, rfl, AL.sorted_nil, by simp [AL.get]⟩, ⟨own_nil _ _ _ _, rfl, AL.sorted_nil, by simp [AL.get]⟩⟩, (Keep.refl _ _).alloc _⟩

/-- a store into the disk's own block -/
theorem RefD.set {w : World} {m : Nat} {d d' : ADisk} {sv yv sv' yv' : Sl} {Ls Ly : List (Int × Sl)} (h : RefD w m d sv yv Ls Ly) (i : Nat) (u : Value)
    (ho : (#[Value.int .i64 d.n, .slice sv.a sv.n sv.c, .slice yv.a yv.n yv.c, .int .i64 d.p, .bool d.dn]).setIfInBounds i u = #[.int .i64 d'.n, .slice sv'.a sv'.n sv'.c, .slice yv'.a yv'.n yv'.c, .int .i64 d'.p, .bool d'.dn]) :
    (w.setCell ⟨m, i, none⟩ u).heap[m]? = some (refObj d' sv' yv') ∧ Keep [m] w (w.setCell ⟨m, i, none⟩ u) ∧ Secs (w.setCell ⟨m, i, none⟩ u) sv d.safe Ls ∧ Secs (w.setCell ⟨m, i, none⟩ u) yv d.way Ly := by
  have k : Keep [m] w (w.setCell ⟨m, i, none⟩ u) := (Keep.refl _ _).setCell _ _ (by simp)
  refine ⟨?_, k, h.safe.keep k (by simpa using h.noData), h.way.keep k (by simpa using h.noData)⟩
  rw [heap_setCell_same w m i _ _ u h.obj, ho]; rfl

theorem ref22_spend (w : World) (m : Nat) (d : ADisk) (sv yv : Sl) (Ls Ly : List (Int × Sl)) (h : RefD w m d sv yv Ls Ly) (h1 : -1 ≤ d.p) (h2 : d.p ≤ 9223372036854775807) :
    Calls Try.prog 65 #[.pointer (some ⟨m, 0, none⟩)] w fun e w' => e = .returned (.bool (decide (d.p ≠ 0))) ∧ RefD w' m d.spend sv yv Ls Ly ∧ Keep [m] w w' := by
  obtain ⟨hc, hf, hx⟩ := cells_of h.obj
  have HD := Lib.hid h
  obtain ⟨n, sf, wy, p, dn⟩ := d
  simp only at h1 h2
  clear h
  by_cases hp : p = 0
  · subst hp
    go_enter Try.func65, Try.ntmps65
    go_wp2
    go_ret
    obtain ⟨q1, q2, q3, q4⟩ := HD.out.set (d' := ⟨n, sf, wy, 0, true⟩) (sv' := sv) (yv' := yv) 4 (.bool true) rfl
    exact ⟨rfl, ⟨q1, q3, q4⟩, q2⟩
  · by_cases hp2 : p = -1
    · subst hp2
      go_enter Try.func65, Try.ntmps65
      go_wp2
      go_ret
      exact ⟨rfl, HD.out, Keep.refl _ _⟩
    · have hp3 : 0 < p := by omega
      have HS : Hid (ADisk.spend ⟨n, sf, wy, p, dn⟩ = ⟨n, sf, wy, p - 1, dn⟩) := by simp [Hid, ADisk.spend, hp, hp3]
      go_enter Try.func65, Try.ntmps65
      go_wp2
      go_ret
      obtain ⟨q1, q2, q3, q4⟩ := HD.out.set (d' := ⟨n, sf, wy, p - 1, dn⟩) (sv' := sv) (yv' := yv) 3 (.int .i64 (p - 1)) rfl
      rw [HS.out]
      exact ⟨by simp, ⟨q1, q3, q4⟩, q2⟩

theorem ref22_Arm (w : World) (m : Nat) (d : ADisk) (sv yv : Sl) (Ls Ly : List (Int × Sl)) (h : RefD w m d sv yv Ls Ly) (n : Int) :
    Calls Try.prog 29 #[.pointer (some ⟨m, 0, none⟩), .int .i64 n] w fun e w' => e = .returned (.tuple #[]) ∧ RefD w' m (d.arm n) sv yv Ls Ly ∧ Keep [m] w w' := by
  obtain ⟨hc, hf, hx⟩ := cells_of h.obj
  have HD := Lib.hid h
  obtain ⟨q, sf, wy, p, dn⟩ := d
  clear h
  cases dn
  · go_enter Try.func29, Try.ntmps29
    go_wp2
    go_end0
    obtain ⟨q1, q2, q3, q4⟩ := HD.out.set (d' := ⟨q, sf, wy, max 0 n, false⟩) (sv' := sv) (yv' := yv) 3 (.int .i64 (max 0 n)) rfl
    exact ⟨rfl, ⟨q1, q3, q4⟩, q2⟩
  · go_enter Try.func29, Try.ntmps29
    go_wp2
    go_end0
    exact ⟨rfl, HD.out, Keep.refl _ _⟩

set_option maxRecDepth 100000 in
set_option maxHeartbeats 400000 in
theorem ref22_Read_no (w : World) (m : Nat) (d : ADisk) (sv yv : Sl) (Ls Ly : List (Int × Sl)) (i : Int) (h : RefD w m d sv yv Ls Ly) (hw : d.wrong i ≠ 0) :
    Calls Try.prog 13 #[.pointer (some ⟨m, 0, none⟩), .int .i64 i] w fun e w' => e = .returned (.tuple #[.slice none 0 0, .int .i64 (d.wrong i)]) ∧ w = w' := by
  obtain ⟨hc, hf, hx⟩ := cells_of h.obj
  obtain ⟨n, sf, wy, p, dn⟩ := d
  clear h
  cases dn
  · by_cases hi : i < 0
    · have e : ADisk.wrong ⟨n, sf, wy, p, false⟩ i = 1 := by simp [ADisk.wrong, hi]
      rw [e]
      clear hw e
      go_enter Try.func13, Try.ntmps13
      go_wp2
      go_ret2
      exact ⟨rfl, rfl⟩
    · by_cases hn : n ≤ i
      · have e : ADisk.wrong ⟨n, sf, wy, p, false⟩ i = 1 := by simp [ADisk.wrong, hn]
        rw [e]
        clear hw e
        go_enter Try.func13, Try.ntmps13
        go_wp2
        go_ret2
        exact ⟨rfl, rfl⟩
      · exact absurd (by simp [ADisk.wrong, hi, hn]) hw
  · have e : ADisk.wrong ⟨n, sf, wy, p, true⟩ i = 14 := by simp [ADisk.wrong]
    rw [e]
    clear hw e
    go_enter Try.func13, Try.ntmps13
    go_wp2
    go_ret2
    exact ⟨rfl, rfl⟩
set_option maxRecDepth 100000 in
set_option maxHeartbeats 400000 in
theorem ref22_Read_yes (w : World) (m : Nat) (d : ADisk) (sv yv : Sl) (Ls Ly : List (Int × Sl)) (i : Int) (h : RefD w m d sv yv Ls Ly) (ok : d.Ok) (hw : d.wrong i = 0) :
    Calls Try.prog 13 #[.pointer (some ⟨m, 0, none⟩), .int .i64 i] w fun e w' => ∃ v, e = .returned (.tuple #[v, .int .i64 0]) ∧ w'.ownsRow 0 5 1 v 32 (bytes (d.at i)) ∧ Keep [] w w' := by
  obtain ⟨hc, hf, hx⟩ := cells_of h.obj
  obtain ⟨hdn, hi, hn⟩ := wrong_zero hw
  rw [hdn] at hc
  have HW := Lib.hid hw
  have HO := Lib.hid ok
  have hni : ¬ d.n ≤ i := by omega
  clear hw ok hdn
  cases hg : AL.get i Ly with
  | some s =>
    obtain ⟨b, hb⟩ : ∃ b, AL.get i d.way = some b := by
      have := AL.isSome_keys (k := i) h.way.keys
      rw [hg] at this
      exact Option.isSome_iff_exists.1 this.symm
    have hlen := (HO.out.way i b hb).1
    have hrow := h.way.data i s b hg hb
    rw [hlen] at hrow
    have e : d.at i = b := by simp [ADisk.at, hb]
    rw [e]
    have HG := Lib.hid hg
    have HR := Lib.hid hrow
    clear hg hb hlen hrow e
    go_enter Try.func13, Try.ntmps13
    go_wp2_with (go_at_call 44; refine (ref22_find _ 0 _ Ly i h.way.row).mono ?_; rw [HG.out]; rintro e w' ⟨rfl, rfl⟩)
    go_ret2
    exact ⟨_, rfl, HR.out, Keep.refl _ _⟩
  | none =>
    have hwn : AL.get i d.way = none := by
      have := AL.isSome_keys (k := i) h.way.keys
      rw [hg] at this
      simpa using this.symm
    have HG := Lib.hid hg
    cases hg2 : AL.get i Ls with
    | some s =>
      obtain ⟨b, hb⟩ : ∃ b, AL.get i d.safe = some b := by
        have := AL.isSome_keys (k := i) h.safe.keys
        rw [hg2] at this
        exact Option.isSome_iff_exists.1 this.symm
      have hlen := (HO.out.safe i b hb).1
      have hrow := h.safe.data i s b hg2 hb
      rw [hlen] at hrow
      have e : d.at i = b := by simp [ADisk.at, hwn, hb]
      rw [e]
      have HG2 := Lib.hid hg2
      have HR := Lib.hid hrow
      clear hg hg2 hwn hb hlen hrow e
      go_enter Try.func13, Try.ntmps13
      go_wp2_with (first
        | (go_at_call 44; (with_reducible refine (ref22_find _ 0 yv.val Ly i h.way.row).mono ?_); rw [HG.out]; rintro e w' ⟨rfl, rfl⟩)
        | (go_at_call 44; (with_reducible refine (ref22_find _ 0 sv.val Ls i h.safe.row).mono ?_); rw [HG2.out]; rintro e w' ⟨rfl, rfl⟩))
      go_ret2
      exact ⟨_, rfl, HR.out, Keep.refl _ _⟩
    | none =>
      have hsn : AL.get i d.safe = none := by
        have := AL.isSome_keys (k := i) h.safe.keys
        rw [hg2] at this
        simpa using this.symm
      have e : d.at i = zeros := by simp [ADisk.at, hwn, hsn]
      rw [e]
      have HG2 := Lib.hid hg2
      clear hg hg2 hwn hsn e
      have hmk : ∀ w, (Instr.makeSlice 34 (.int .i64 32) (.int .i64 32)).run Try.prog w = .ok (.slice (some ⟨w.heap.size, 0, none⟩) 32 32) (w.alloc (.cells (bytes zeros).toArray 5)) := fun _ => by kernel_rfl
      go_enter Try.func13, Try.ntmps13
      go_wp2_with (first
        | (go_at_call 44; (with_reducible refine (ref22_find _ 0 yv.val Ly i h.way.row).mono ?_); rw [HG.out]; rintro e w' ⟨rfl, rfl⟩)
        | (go_at_call 44; (with_reducible refine (ref22_find _ 0 sv.val Ls i h.safe.row).mono ?_); rw [HG2.out]; rintro e w' ⟨rfl, rfl⟩))
      go_ret2
      exact ⟨_, rfl, ⟨by simp [bytes, zeros], .inr ⟨w.heap.size, 32, _, rfl, Nat.zero_le _, heap_alloc_new w _, by omega, by unfold maxLen; omega, by simp [bytes, zeros], by simp [bytes, zeros]⟩⟩, (Keep.refl _ _).alloc _⟩
end Go.Proofs.Ytaldkgnpkeekhaa
