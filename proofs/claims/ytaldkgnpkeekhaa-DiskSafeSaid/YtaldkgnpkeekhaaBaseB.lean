/-
  Groundwork: ranging over a map with int keys while other blocks are written; all of a list put into another.
-/
import Derived.Test.YtaldkgnpkeekhaaBase
import Derived.Maps.RangeRun
import Derived.Maps.RangeWalk
import Derived.StillTailTactics
namespace Go.Proofs.Ytaldkgnpkeekhaa
open Go.RowKit Go.MapKept

namespace AL
variable {α : Type}
/-- all pairs of m put into l -/
def putAll (l : List (Int × α)) (m : List (Int × α)) : List (Int × α) := m.foldl (fun s p => put p.1 p.2 s) l
theorem sorted_putAll {l m : List (Int × α)} (h : Sorted l) : Sorted (putAll l m) := by
  induction m generalizing l with
  | nil => exact h
  | cons p r ih => exact ih (sorted_put h)
theorem get_append {k : Int} {l m : List (Int × α)} : get k (l ++ m) = (get k l).or (get k m) := by
  induction l with
  | nil => simp [get]
  | cons p r ih =>
    obtain ⟨j, b⟩ := p
    simp only [List.cons_append, get]
    split
    · simp
    · exact ih
theorem get_putAll {k : Int} {l m : List (Int × α)} (hm : (m.map (·.1)).Nodup) : get k (putAll l m) = (get k m).or (get k l) := by
  induction m generalizing l with
  | nil => simp [putAll, get]
  | cons p r ih =>
    obtain ⟨j, b⟩ := p
    simp only [List.map_cons, List.nodup_cons] at hm
    have := ih (l := put j b l) hm.2
    unfold putAll at this ⊢
    rw [List.foldl_cons, this, get_put]
    simp only [get]
    by_cases e : j = k
    · subst e
      have hn : get j r = none := by
        rw [get_none_iff]; intro p hp e; exact hm.1 (by rw [← e]; exact List.mem_map_of_mem hp)
      simp [hn]
    · simp [e]
theorem get_perm {l m : List (Int × α)} (h : l.Perm m) (hn : (l.map (·.1)).Nodup) (k : Int) : get k l = get k m := by
  induction h with
  | nil => rfl
  | cons p _ ih =>
    obtain ⟨j, b⟩ := p
    simp only [List.map_cons, List.nodup_cons] at hn
    simp only [get, ih hn.2]
  | swap p q l =>
    obtain ⟨j, b⟩ := p
    obtain ⟨i, a⟩ := q
    simp only [List.map_cons, List.nodup_cons, List.mem_cons, not_or] at hn
    simp only [get]
    by_cases h1 : i = k
    · subst h1
      rw [if_pos rfl, if_neg (fun e => hn.1.1 e.symm), if_pos rfl]
    · simp [h1]
  | trans h1 h2 ih1 ih2 => rw [ih1 hn, ih2 ((h1.map _).nodup_iff.1 hn)]
/-- the order in which they come makes no difference -/
theorem putAll_perm {l m m' : List (Int × α)} (hl : Sorted l) (h : m.Perm m') (hn : (m.map (·.1)).Nodup) : putAll l m = putAll l m' := by
  refine ext (sorted_putAll hl) (sorted_putAll hl) fun k => ?_
  rw [get_putAll hn, get_putAll ((h.map _).nodup_iff.1 hn), get_perm h hn]
theorem perm_of_subset {β : Type} : ∀ (d l : List β), d.Nodup → (∀ p ∈ d, p ∈ l) → d.length = l.length → d.Perm l
  | [], l, _, _, h => by
    obtain rfl : l = [] := List.eq_nil_of_length_eq_zero (by simpa using h.symm)
    exact .refl _
  | p :: r, l, hn, hs, h => by
    rw [List.nodup_cons] at hn
    obtain ⟨s, t, rfl⟩ := List.append_of_mem (hs p (by simp))
    have h2 : ∀ q ∈ r, q ∈ s ++ t := by
      intro q hq
      have h3 := hs q (by simp [hq])
      rcases List.mem_append.1 h3 with h3 | h3
      · exact List.mem_append.2 (.inl h3)
      · rcases List.mem_cons.1 h3 with h3 | h3
        · subst h3; exact absurd hq hn.1
        · exact List.mem_append.2 (.inr h3)
    exact ((perm_of_subset r (s ++ t) hn.2 h2 (by simp at h ⊢; omega)).cons p).trans List.perm_middle.symm
theorem perm_of_all {l done : List (Int × α)} (hd : (done.map (·.1)).Nodup) (hs : ∀ p ∈ done, p ∈ l) (hlen : done.length = l.length) : done.Perm l := by
  have hnd : done.Nodup := by
    rw [List.Nodup, List.pairwise_map] at hd
    exact hd.imp fun h e => h (by rw [e])
  exact perm_of_subset done l hnd hs hlen
end AL

/-- an iterator in block r over the map in block b: done has come, and the map has not been written since -/
def Iter {α : Type} (w : World) (b r : Nat) (enc : α → Value) (l done : List (Int × α)) : Prop :=
  ∃ es clock seen since, w.heap[b]? = some (.map es clock) ∧ w.heap[r]? = some (.mapIter (some b) since seen clock) ∧ Stamped es clock ∧ since = clock ∧ AL.Sorted l ∧
    (es.toList.map fun e => (e.key, e.val)).Perm (l.map fun p => (Value.int .i64 p.1, enc p.2)) ∧
    (done.map (·.1)).Nodup ∧ (∀ p ∈ done, p ∈ l) ∧ (∀ e ∈ es.toList, seen.contains e.born = true ↔ ∃ p ∈ done, e.key = .int .i64 p.1) ∧ done.length + (leftOf es seen).size = es.size

def itLeft (w : World) (b r : Nat) : Nat :=
  match w.heap[b]?, w.heap[r]? with
  | some (.map es _), some (.mapIter _ _ seen _) => (leftOf es seen).size
  | _, _ => 0

section
variable {α : Type} {P : Program} {w : World} {b r : Nat} {enc : α → Value} {l done : List (Int × α)}

theorem Iter.isMap (h : Iter w b r enc l done) : IsMap w b enc l := by
  obtain ⟨es, clock, seen, since, h1, _, h3, _, h5, h6, _⟩ := h
  exact ⟨es, clock, h1, h3, h5, h6⟩
theorem Iter.of_blocks {w' : World} (h : Iter w b r enc l done) (hb : w'.heap[b]? = w.heap[b]?) (hr : w'.heap[r]? = w.heap[r]?) : Iter w' b r enc l done := by
  obtain ⟨es, clock, seen, since, h1, h2, h3⟩ := h
  exact ⟨es, clock, seen, since, hb.trans h1, hr.trans h2, h3⟩
theorem Iter.lt (h : Iter w b r enc l done) : b < w.heap.size ∧ r < w.heap.size := by
  obtain ⟨es, clock, seen, since, h1, h2, _⟩ := h
  exact ⟨lt_of_block h1, lt_of_block h2⟩
theorem itLeft_of_blocks {w' : World} (hb : w'.heap[b]? = w.heap[b]?) (hr : w'.heap[r]? = w.heap[r]?) : itLeft w' b r = itLeft w b r := by
  unfold itLeft; rw [hb, hr]

theorem wpList_range_it {ops : Array Oper} {rest : List Oper} {o : Oper} {a : Act} {Q : Exit → Act → World → Prop} (hg : o.guard = none) (m : Operand) (t : TypeId) (hop : o.op = Op.range t m) {kt e : TypeId} (ht : P.underlying t = some (.map kt e))
    (hm : a.eval m = .map (some b)) (h : IsMap w b enc l)
    (hK : ∀ w', Iter w' b w.heap.size enc l [] → Keep [] w w' → Hid (w'.heap.size = w.heap.size + 1) → wpList P ops Q rest (a.put o.dst (.pointer (some ⟨w.heap.size, 0, none⟩))) w') :
    wpList P ops Q (o :: rest) a w := by
  refine wpList_plain hg fun K' hK' => ?_
  obtain ⟨es, clock, hb, hs, hl, hp⟩ := h
  have hrun : (Instr.range t (.map (some b))).run P w = .ok (.pointer (some ⟨w.heap.size, 0, none⟩)) (w.alloc (.mapIter (some b) clock #[] clock)) := run_range_map w t kt e b es clock ht hb
  unfold Oper.wp
  simp only [execOp, hop, hm, Sem.run_bind, hrun, Result.andThen_ok, Sem.run_pure, Oper.upon_value]
  refine hK' _ _ (hK _ ⟨es, clock, #[], clock, (Below.heap_alloc w _ b (lt_of_block hb)).trans hb, heap_alloc_new w _, hs, rfl, hl, hp, by simp, by simp, by simp, ?_⟩ ((Keep.refl _ _).alloc _) (by simp [Hid]))
  have e1 : (leftOf es #[]) = es := by
    unfold leftOf
    rw [Array.filter_eq_self]
    intro x _; simp
  simp [e1]

theorem nodup_snoc {β : Type} {l : List β} {x : β} (h : l.Nodup) (hx : x ∉ l) : (l ++ [x]).Nodup := by
  rw [List.nodup_append]
  exact ⟨h, by simp, fun a ha b hb => by
    obtain rfl : b = x := by simpa using hb
    rintro rfl; exact hx ha⟩
theorem key_inj {es : Array MapEntry} {clock : Nat} (hs : Stamped es clock) {x y : MapEntry} (hx : x ∈ es.toList) (hy : y ∈ es.toList) (h : x.key = y.key) : x = y := by
  have h3 := ((stamped_iff es clock).1 hs).2.2
  exact entry_eq_of_key h3 hx hy h

theorem left_drop (es : Array MapEntry) (clock : Nat) (hs : Stamped es clock) (seen : Array Nat) (e : MapEntry) (he : e ∈ (leftOf es seen).toList) : (leftOf es (seen.push e.born)).size + 1 = (leftOf es seen).size := by
  obtain ⟨h1, h2⟩ := mem_left he
  have hn := hs.2.1
  unfold leftOf
  have e0 : ∀ f : MapEntry → Bool, (es.filter f).size = (es.toList.filter f).length := fun f => by rw [← Array.length_toList, Array.toList_filter]
  rw [e0, e0]
  revert h1 hn
  induction es.toList with
  | nil => intro h1 _; cases h1
  | cons x t ih =>
    intro h1 hn
    simp only [List.map_cons, List.nodup_cons] at hn
    rcases List.mem_cons.1 h1 with h1 | h1
    · subst h1
      have e2 : t.filter (fun x => !(seen.push e.born).contains x.born) = t.filter (fun x => !seen.contains x.born) := by
        apply List.filter_congr
        intro y hy
        rw [contains_push]
        have : (y.born == e.born) = false := by
          simp only [beq_eq_false_iff_ne]
          intro h; exact hn.1 (by rw [← h]; exact List.mem_map_of_mem hy)
        simp [this]
      rw [List.filter_cons, List.filter_cons, if_neg (by simp), if_pos (by rw [h2]; rfl), e2]
      simp
    · have hb : (x.born == e.born) = false := by
        simp only [beq_eq_false_iff_ne]
        intro h; exact hn.1 (by rw [h]; exact List.mem_map_of_mem h1)
      have := ih h1 hn.2
      rw [List.filter_cons, List.filter_cons, contains_push, hb, Bool.or_false]
      split
      · simp only [List.length_cons]; omega
      · exact this

theorem Iter.next (h : Iter w b r enc l done) (ty : TypeId) :
    (done.Perm l ∧ itLeft w b r = 0 ∧ (Instr.next (.pointer (some ⟨r, 0, none⟩)) false ty).run P w = .ok (.tuple #[.bool false]) w) ∨
    ∃ k a w', (k, a) ∈ l ∧ k ∉ done.map (·.1) ∧ (Instr.next (.pointer (some ⟨r, 0, none⟩)) false ty).run P w = .ok (.tuple #[.bool true, .int .i64 k, enc a]) w' ∧
      Iter w' b r enc l (done ++ [(k, a)]) ∧ Keep [r] w w' ∧ w'.heap.size = w.heap.size ∧ itLeft w' b r < itLeft w b r ∧ (Instr.entry (.pointer (some ⟨r, 0, none⟩))).run P w' = .ok (.tuple #[.int .i64 k, enc a]) w' := by
  obtain ⟨es, clock, seen, since, hb, hr, hs, rfl, hl, hp, hd1, hd2, hd3, hd4⟩ := h
  have hle : es.size = l.length := by simpa using hp.length_eq
  rcases run_next_at (P := P) w ty r b since since seen es since hr hb (fun x hx => hs.1 x hx) (Nat.le_refl _) with ⟨h0, hrun⟩ | ⟨e, he, w1, hw1, hrun⟩
  · left
    exact ⟨AL.perm_of_all hd1 hd2 (by omega), by simp [itLeft, hb, hr, h0], hrun⟩
  · right
    obtain ⟨he1, he2⟩ := mem_left he
    obtain ⟨k, a, hk, hv, hm⟩ := keys_int hp e he1
    have hnd : k ∉ done.map (·.1) := by
      intro hmem
      obtain ⟨p, hp1, hp2⟩ := List.mem_map.1 hmem
      have := (hd3 e he1).2 ⟨p, hp1, by rw [hk, ← hp2]⟩
      rw [he2] at this; cases this
    have hw1h : w1.heap = w.heap := by rcases hw1 with rfl | rfl <;> rfl
    have hrne : r ≠ b := by rintro rfl; rw [hb] at hr; cases hr
    have hrl : r < w.heap.size := lt_of_block hr
    have hr' : (ChangeMaps.setBlock w1 r (.mapIter (some b) since (seen.push e.born) since)).heap[r]? = some (.mapIter (some b) since (seen.push e.born) since) := by
      simp [ChangeMaps.setBlock, hw1h, hrl]
    have hb' : (ChangeMaps.setBlock w1 r (.mapIter (some b) since (seen.push e.born) since)).heap[b]? = some (.map es since) := by
      simp [ChangeMaps.setBlock, hw1h, hrne, hb]
    have hdrop := left_drop es since hs seen e he
    refine ⟨k, a, _, hm, hnd, by rw [hrun, hk, hv], ⟨es, since, seen.push e.born, since, hb', hr', hs, rfl, hl, hp, ?_, ?_, ?_, ?_⟩, ?_, ?_, ?_, ?_⟩
    · rw [List.map_append]; exact nodup_snoc hd1 hnd
    · intro p hp1
      rcases List.mem_append.1 hp1 with hp1 | hp1
      · exact hd2 p hp1
      · obtain rfl : p = (k, a) := by simpa using hp1
        exact hm
    · intro x hx
      rw [contains_push]
      constructor
      · intro hc
        simp only [Bool.or_eq_true] at hc
        rcases hc with hc | hc
        · obtain ⟨p, hp1, hp2⟩ := (hd3 x hx).1 hc
          exact ⟨p, by simp [hp1], hp2⟩
        · have hxe : x = e := born_inj hs.2.1 hx he1 (by simpa using hc)
          exact ⟨(k, a), by simp, by rw [hxe, hk]⟩
      · rintro ⟨p, hp1, hp2⟩
        rcases List.mem_append.1 hp1 with hp1 | hp1
        · rw [(hd3 x hx).2 ⟨p, hp1, hp2⟩]; rfl
        · obtain rfl : p = (k, a) := by simpa using hp1
          have hxe : x = e := key_inj hs hx he1 (by rw [hp2, hk])
          simp [hxe]
    · simp only [List.length_append, List.length_cons, List.length_nil]; omega
    · have hk0 : Keep [r] w w1 := by rcases hw1 with rfl | rfl <;> first | exact Keep.refl _ _ | exact (Keep.refl _ _).drew
      have hk1 := hk0.setObjAt r (.mapIter (some b) since (seen.push e.born) since) (by simp)
      exact hk1
    · simp [ChangeMaps.setBlock, hw1h]
    · have e1 : itLeft (ChangeMaps.setBlock w1 r (.mapIter (some b) since (seen.push e.born) since)) b r = (leftOf es (seen.push e.born)).size := by unfold itLeft; rw [hb', hr']
      have e2 : itLeft w b r = (leftOf es seen).size := by unfold itLeft; rw [hb, hr]
      rw [e1, e2]; omega
    · rw [← hk, ← hv]
      exact run_entry_at _ r b since seen es since e hr' hb' he1 hs.2.1

theorem wpList_next_it {ops : Array Oper} {rest : List Oper} {o : Oper} {a : Act} {Q : Exit → Act → World → Prop} (hg : o.guard = none) (it : Operand) (hop : o.op = Op.next it false)
    (hit : a.eval it = .pointer (some ⟨r, 0, none⟩)) (h : Iter w b r enc l done)
    (h0 : done.Perm l → wpList P ops Q rest (a.put o.dst (.tuple #[.bool false])) w)
    (h1 : ∀ (k : Int) (x : α) (w' : World), (k, x) ∈ l → k ∉ done.map (·.1) → Iter w' b r enc l (done ++ [(k, x)]) → Keep [r] w w' → Hid (w'.heap.size = w.heap.size) → itLeft w' b r < itLeft w b r →
      (Instr.entry (.pointer (some ⟨r, 0, none⟩))).run P w' = .ok (.tuple #[.int .i64 k, enc x]) w' → wpList P ops Q rest (a.put o.dst (.tuple #[.bool true, .int .i64 k, enc x])) w') :
    wpList P ops Q (o :: rest) a w := by
  refine wpList_plain hg fun K' hK' => ?_
  unfold Oper.wp
  rcases h.next (P := P) o.type with ⟨hp, _, hrun⟩ | ⟨k, x, w', hm, hn, hrun, hi, hk, hsz, hlt, hen⟩
  · simp only [execOp, hop, hit, Sem.run_bind, hrun, Result.andThen_ok, Sem.run_pure, Oper.upon_value]
    exact hK' _ _ (h0 hp)
  · simp only [execOp, hop, hit, Sem.run_bind, hrun, Result.andThen_ok, Sem.run_pure, Oper.upon_value]
    exact hK' _ _ (h1 k x w' hm hn hi hk hsz hlt hen)

theorem wpList_mapUpdate_im {ops : Array Oper} {rest : List Oper} {o : Oper} {a : Act} {Q : Exit → Act → World → Prop} (hg : o.guard = none) (m x v : Operand) (t : TypeId) (hop : o.op = Op.mapUpdate t m x v)
    {kt e : TypeId} (ht : P.underlying t = some (.map kt e)) (hk : P.underlying kt = some (.int .i64)) (hm : a.eval m = .map (some b)) (k : Int) (hx : a.eval x = .int .i64 k) (y : α) (hv : a.eval v = enc y) (h : IsMap w b enc l)
    (hK : ∀ w', IsMap w' b enc (AL.put k y l) → Keep [b] w w' → Hid (w'.heap.size = w.heap.size) → wpList P ops Q rest (a.put o.dst undef) w') : wpList P ops Q (o :: rest) a w := by
  refine wpList_plain hg fun K' hK' => ?_
  obtain ⟨w', hrun, h1, h2, _, h4⟩ := h.run_update ht hk k y
  unfold Oper.wp
  simp only [execOp, hop, hm, hx, hv, Sem.run_bind, hrun, Result.andThen_ok, Sem.run_pure]
  exact hK' _ _ (hK w' h1 h2 h4)

theorem wpList_clear_im {ops : Array Oper} {rest : List Oper} {o : Oper} {a : Act} {Q : Exit → Act → World → Prop} (hg : o.guard = none) (m : Operand) (t : TypeId) (hop : o.op = Op.call { callee := .builtin .clear, args := #[m], argTypes := #[t] })
    {kt e : TypeId} (ht : P.underlying t = some (.map kt e)) (hm : a.eval m = .map (some b)) (h : IsMap w b enc l)
    (hK : ∀ w', IsMap w' b enc ([] : List (Int × α)) → Keep [b] w w' → Hid (w'.heap.size = w.heap.size) → wpList P ops Q rest (a.put o.dst (.tuple #[])) w') : wpList P ops Q (o :: rest) a w := by
  refine wpList_plain hg fun K' hK' => ?_
  obtain ⟨w', hrun, h1, h2, _, h4⟩ := h.run_clear (ty := o.type) ht
  unfold Oper.wp
  simp [execOp, hop, hm, hrun, resolve, invoke, builtin, Result.andThen]
  exact hK' _ _ (hK w' h1 h2 h4)
theorem wpList_delete_im {ops : Array Oper} {rest : List Oper} {o : Oper} {a : Act} {Q : Exit → Act → World → Prop} (hg : o.guard = none) (m x : Operand) (t k2 : TypeId) (hop : o.op = Op.call { callee := .builtin .delete, args := #[m, x], argTypes := #[t, k2] })
    {kt e : TypeId} (ht : P.underlying t = some (.map kt e)) (hk : P.underlying kt = some (.int .i64)) (hm : a.eval m = .map (some b)) (k : Int) (hx : a.eval x = .int .i64 k) (h : IsMap w b enc l)
    (hK : ∀ w', IsMap w' b enc (AL.del k l) → Keep [b] w w' → Hid (w'.heap.size = w.heap.size) → wpList P ops Q rest (a.put o.dst (.tuple #[])) w') : wpList P ops Q (o :: rest) a w := by
  refine wpList_plain hg fun K' hK' => ?_
  obtain ⟨w', hrun, h1, h2, _, h4⟩ := h.run_delete (k2 := k2) (ty := o.type) ht hk k
  unfold Oper.wp
  simp [execOp, hop, hm, hx, hrun, resolve, invoke, builtin, Result.andThen]
  exact hK' _ _ (hK w' h1 h2 h4)
theorem wpList_len_im {ops : Array Oper} {rest : List Oper} {o : Oper} {a : Act} {Q : Exit → Act → World → Prop} (hg : o.guard = none) (m : Operand) (t : TypeId) (hop : o.op = Op.call { callee := .builtin .len, args := #[m], argTypes := #[t] })
    {kt e : TypeId} (ht : P.underlying t = some (.map kt e)) (hm : a.eval m = .map (some b)) (h : IsMap w b enc l)
    (hK : wpList P ops Q rest (a.put o.dst (.int .i64 l.length)) w) : wpList P ops Q (o :: rest) a w := by
  refine wpList_plain hg fun K' hK' => ?_
  obtain ⟨es, clock, hb, he⟩ := h.length
  have hrun : ∀ ty, (Builtin.len_ #[t] ty #[.map (some b)]).run P w = .ok (.int .i64 l.length) w := fun ty => by simp [Builtin.len_, run_underlying ht, run_getObj_map hb, he, goInt]
  unfold Oper.wp
  simp [execOp, hop, hm, hrun, resolve, invoke, builtin, Result.andThen]
  exact hK' _ _ hK

/-- a whole array, or struct, loaded in a region that draws its order -/
theorem wpStill_load_row {ops : Array Oper} {rest : List Oper} {o : Oper} {a : Act} {Q : Act → Prop} (hgd : o.guard = none) (ty : TypeId) (x : Operand) (ho : o.op = .load ty x)
    (g : Nat) (hx : a.eval x = .pointer (some ⟨g, 0, none⟩)) (t : TypeId) (cs : Array Value) (fr : Nat × Nat) (d : TypeDesc) (hg : w.heap[g]? = some (.cells cs t fr))
    (hu : P.underlying ty = some d) (hd : (match d with | .struct _ | .array _ _ => true | _ => false) = true) (hi : (P.info? ty).map (·.size) = some cs.size)
    (h : wpStill P ops w Q rest (a.put o.dst (.agg cs))) : wpStill P ops w Q (o :: rest) a := by
  refine wpStill_step fun K hK => ?_
  simp only [Region.wanted, hgd, if_true]
  unfold Oper.still execOp
  simp only [ho, hx, Instr.loadAt, Instr.sureAddr, Sem.run_bind, Sem.run_pure, Result.andThen_ok, run_loadVar_row w g t ty cs fr d hg hu hd hi]
  exact ⟨rfl, hK _ h⟩

/-- a look-up in a region that draws its order -/
theorem wpStill_lookup_im {ops : Array Oper} {rest : List Oper} {o : Oper} {a : Act} {Q : Act → Prop} (hg : o.guard = none) (m x : Operand) (t : TypeId) (c : Bool) (hop : o.op = Op.lookup t m x c)
    {kt e : TypeId} (ht : P.underlying t = some (.map kt e)) (hk : P.underlying kt = some (.int .i64)) (z : Value) (hz : (zeroValue e).run P w = .ok z w) (hm : a.eval m = .map (some b)) (k : Int) (hx : a.eval x = .int .i64 k) (h : IsMap w b enc l)
    (hK : wpStill P ops w Q rest (a.put o.dst (if c then .tuple #[((AL.get k l).map enc).getD z, .bool (AL.get k l).isSome] else ((AL.get k l).map enc).getD z))) : wpStill P ops w Q (o :: rest) a := by
  refine wpStill_step fun K hK' => ?_
  have hrun : (Instr.lookup t (.map (some b)) (.int .i64 k) c).run P w = .ok (if c then .tuple #[((AL.get k l).map enc).getD z, .bool (AL.get k l).isSome] else ((AL.get k l).map enc).getD z) w := by
    cases hg : AL.get k l with
    | none => simpa using h.run_lookup_none ht hk hz hg c
    | some v => simpa using h.run_lookup_some ht hk hg c
  simp only [Region.wanted, hg, if_true]
  unfold Oper.still execOp
  simp only [hop, hm, hx, Sem.run_bind, hrun, Result.andThen_ok, Sem.run_pure]
  exact ⟨rfl, hK' _ hK⟩

/-- an owned slice, nil or not, in one shape -/
theorem own_shape {base : Nat} {e : TypeId} {v : Value} {n : Nat} {xs : List Value} (h : w.ownsRow base e 1 v n xs) :
    ∃ a cap, v = .slice a n cap ∧ (∀ j u, xs[j]? = some u → ∃ g, a = some ⟨g, 0, none⟩ ∧ w.cell? ⟨g, j, none⟩ = some u) ∧ (∀ ad, a = some ad → base ≤ ad.block) ∧ n ≤ maxLen := by
  obtain ⟨h1, ⟨rfl, rfl⟩ | ⟨g, cap, cur, rfl, hg, hb, hn, hm, hs, ht⟩⟩ := h
  · refine ⟨none, 0, rfl, ?_, by simp, Nat.zero_le _⟩
    intro j u hu
    obtain rfl : xs = [] := List.eq_nil_of_length_eq_zero (by simpa using h1)
    simp at hu
  · refine ⟨some ⟨g, 0, none⟩, cap, rfl, ?_, ?_, Nat.le_trans hn hm⟩
    · intro j u hu
      refine ⟨g, rfl, ?_⟩
      rw [cell_of_row w g j cur e (0, 0) hb]
      rw [← ht, List.getElem?_take] at hu
      split at hu
      · simpa using hu
      · cases hu
    · intro ad had; cases had; exact hg
end
end Go.Proofs.Ytaldkgnpkeekhaa
