/-
  Shared groundwork over any program: sorted association lists with integer keys, the block of a Go map with int keys that holds one, what lookup, store, delete, len and clear do to it, and the frame relation Keep.
-/
import Derived.WalkKit
import Derived.WalkSpells
import Derived.WalkLawsBesides
import Derived.Lib.Hide
import Derived.BigQuiet
import Derived.Deep.QuietTactic
import Derived.MapKept
import Derived.Maps.Own
import Derived.Maps.OwnOps
import Derived.Maps.OwnSet
import Derived.Deep.DeepMust
import Derived.Deep.WholeRow
namespace Go.Proofs.Ytaldkgnpkeekhaa
open Go.RowKit Go.MapKept

/-! ### sorted association lists -/
namespace AL
variable {α β : Type}

def get (k : Int) : List (Int × α) → Option α
  | [] => none
  | (j, a) :: r => if j = k then some a else get k r
def put (k : Int) (a : α) : List (Int × α) → List (Int × α)
  | [] => [(k, a)]
  | (j, b) :: r => if k < j then (k, a) :: (j, b) :: r else if j = k then (k, a) :: r else (j, b) :: put k a r
def del (k : Int) : List (Int × α) → List (Int × α)
  | [] => []
  | (j, b) :: r => if j = k then r else (j, b) :: del k r
def Sorted (l : List (Int × α)) : Prop := l.Pairwise (fun x y => x.1 < y.1)

theorem sorted_nil : Sorted ([] : List (Int × α)) := List.Pairwise.nil
theorem sorted_cons {k : Int} {a : α} {l : List (Int × α)} : Sorted ((k, a) :: l) ↔ (∀ p ∈ l, k < p.1) ∧ Sorted l := by simp [Sorted]
theorem Sorted.tail {x : Int × α} {l : List (Int × α)} (h : Sorted (x :: l)) : Sorted l := (List.pairwise_cons.1 h).2

theorem get_none_of_lt {k : Int} {l : List (Int × α)} (h : ∀ p ∈ l, k < p.1) : get k l = none := by
  induction l with
  | nil => rfl
  | cons x r ih =>
    obtain ⟨j, b⟩ := x
    have h1 := h (j, b) (by simp)
    simp only [get]
    rw [if_neg (by simp only at h1; omega)]
    exact ih fun p hp => h p (by simp [hp])
theorem get_some_iff {l : List (Int × α)} (h : Sorted l) {k : Int} {a : α} : get k l = some a ↔ (k, a) ∈ l := by
  induction l with
  | nil => simp [get]
  | cons x r ih =>
    obtain ⟨j, b⟩ := x
    obtain ⟨h1, h2⟩ := sorted_cons.1 h
    simp only [get]
    by_cases e : j = k
    · subst e
      rw [if_pos rfl]
      constructor
      · intro q; cases q; simp
      · intro q
        rcases List.mem_cons.1 q with q | q
        · cases q; rfl
        · have := h1 _ q; simp at this
    · rw [if_neg e, ih h2]
      constructor
      · intro q; simp [q]
      · intro q
        rcases List.mem_cons.1 q with q | q
        · cases q; exact absurd rfl e
        · exact q
theorem get_none_iff {l : List (Int × α)} {k : Int} : get k l = none ↔ ∀ p ∈ l, p.1 ≠ k := by
  induction l with
  | nil => simp [get]
  | cons x r ih =>
    obtain ⟨j, b⟩ := x
    simp only [get]
    by_cases e : j = k
    · simp [e]
    · simp [e, ih]
theorem mem_put {k : Int} {a : α} {l : List (Int × α)} {p : Int × α} (h : p ∈ put k a l) : p = (k, a) ∨ p ∈ l := by
  induction l with
  | nil => simpa [put] using h
  | cons x r ih =>
    obtain ⟨j, b⟩ := x
    simp only [put] at h
    split at h
    · simpa using h
    · split at h
      · rcases List.mem_cons.1 h with h | h
        · exact .inl h
        · exact .inr (by simp [h])
      · rcases List.mem_cons.1 h with h | h
        · exact .inr (by simp [h])
        · rcases ih h with h | h
          · exact .inl h
          · exact .inr (by simp [h])
theorem sorted_put {k : Int} {a : α} {l : List (Int × α)} (h : Sorted l) : Sorted (put k a l) := by
  induction l with
  | nil => simp [put, Sorted]
  | cons x r ih =>
    obtain ⟨j, b⟩ := x
    obtain ⟨h1, h2⟩ := sorted_cons.1 h
    simp only [put]
    split
    · rename_i hk
      refine sorted_cons.2 ⟨fun p hp => ?_, h⟩
      rcases List.mem_cons.1 hp with hp | hp
      · subst hp; exact hk
      · exact Int.lt_trans hk (h1 p hp)
    · split
      · rename_i hk
        subst hk
        exact sorted_cons.2 ⟨h1, h2⟩
      · rename_i hk1 hk2
        refine sorted_cons.2 ⟨fun p hp => ?_, ih h2⟩
        rcases mem_put hp with hp | hp
        · subst hp; simp only; omega
        · exact h1 p hp
theorem mem_del {k : Int} {l : List (Int × α)} {p : Int × α} (h : p ∈ del k l) : p ∈ l := by
  induction l with
  | nil => simp [del] at h
  | cons x r ih =>
    obtain ⟨j, b⟩ := x
    simp only [del] at h
    split at h
    · simp [h]
    · rcases List.mem_cons.1 h with h | h
      · simp [h]
      · simp [ih h]
theorem sorted_del {k : Int} {l : List (Int × α)} (h : Sorted l) : Sorted (del k l) := by
  induction l with
  | nil => simp [del, Sorted]
  | cons x r ih =>
    obtain ⟨j, b⟩ := x
    obtain ⟨h1, h2⟩ := sorted_cons.1 h
    simp only [del]
    split
    · exact h2
    · exact sorted_cons.2 ⟨fun p hp => h1 p (mem_del hp), ih h2⟩
theorem del_of_none {k : Int} {l : List (Int × α)} (h : get k l = none) : del k l = l := by
  induction l with
  | nil => rfl
  | cons x r ih =>
    obtain ⟨j, b⟩ := x
    simp only [get] at h
    split at h
    · cases h
    · rename_i e; simp only [del]; rw [if_neg e, ih h]
theorem perm_of_get {k : Int} {a : α} {l : List (Int × α)} (h : get k l = some a) : l.Perm ((k, a) :: del k l) := by
  induction l with
  | nil => simp [get] at h
  | cons x r ih =>
    obtain ⟨j, b⟩ := x
    simp only [get] at h
    simp only [del]
    split at h
    · rename_i e; cases h; subst e; rw [if_pos rfl]
    · rename_i e; rw [if_neg e]
      exact ((ih h).cons _).trans (List.Perm.swap _ _ _)
theorem put_perm {k : Int} {a : α} {l : List (Int × α)} (h : Sorted l) : (put k a l).Perm ((k, a) :: del k l) := by
  induction l with
  | nil => simp [put, del]
  | cons x r ih =>
    obtain ⟨j, b⟩ := x
    obtain ⟨h1, h2⟩ := sorted_cons.1 h
    simp only [put, del]
    split
    · rename_i hk
      rw [if_neg (by omega), del_of_none (get_none_of_lt fun p hp => Int.lt_trans hk (h1 p hp))]
    · split
      · rename_i hk; rfl
      · exact ((ih h2).cons _).trans (List.Perm.swap _ _ _)
theorem get_put {k j : Int} {a : α} {l : List (Int × α)} : get j (put k a l) = if k = j then some a else get j l := by
  induction l with
  | nil => simp [put, get]
  | cons x r ih =>
    obtain ⟨i, b⟩ := x
    simp only [put]
    split
    · simp [get]
    · split
      · rename_i e
        subst e
        by_cases h : i = j
        · simp [get, h]
        · simp [get, h]
      · rename_i e1 e2
        simp only [get, ih]
        by_cases h : i = j
        · subst h; rw [if_pos rfl, if_neg (fun e => e2 e.symm), if_pos rfl]
        · rw [if_neg h, if_neg h]
theorem get_del {k j : Int} {l : List (Int × α)} (hs : Sorted l) : get j (del k l) = if k = j then none else get j l := by
  induction l with
  | nil => simp [del, get]
  | cons x r ih =>
    obtain ⟨i, b⟩ := x
    obtain ⟨h1, h2⟩ := sorted_cons.1 hs
    simp only [del]
    split
    · rename_i e
      subst e
      by_cases h : i = j
      · subst h; rw [if_pos rfl]; exact get_none_of_lt h1
      · simp [get, h]
    · rename_i e1
      simp only [get, ih h2]
      by_cases h : i = j
      · subst h; rw [if_pos rfl, if_neg (fun e => e1 e.symm), if_pos rfl]
      · rw [if_neg h, if_neg h]
/-- two sorted lists with the same look-ups are one -/
theorem ext {l m : List (Int × α)} (hl : Sorted l) (hm : Sorted m) (h : ∀ k, get k l = get k m) : l = m := by
  induction l generalizing m with
  | nil =>
    cases m with
    | nil => rfl
    | cons y r => obtain ⟨j, b⟩ := y; have := h j; simp [get] at this
  | cons x r ih =>
    obtain ⟨j, b⟩ := x
    obtain ⟨h1, h2⟩ := sorted_cons.1 hl
    cases m with
    | nil => have := h j; simp [get] at this
    | cons y r' =>
      obtain ⟨j', b'⟩ := y
      obtain ⟨h1', h2'⟩ := sorted_cons.1 hm
      have e : j = j' := by
        by_cases hlt : j < j'
        · have := h j
          rw [get_none_of_lt (l := (j', b') :: r') (fun p hp => by
            rcases List.mem_cons.1 hp with hp | hp
            · subst hp; exact hlt
            · exact Int.lt_trans hlt (h1' p hp))] at this
          simp [get] at this
        · by_cases hgt : j' < j
          · have := h j'
            rw [get_none_of_lt (l := (j, b) :: r) (fun p hp => by
              rcases List.mem_cons.1 hp with hp | hp
              · subst hp; exact hgt
              · exact Int.lt_trans hgt (h1 p hp))] at this
            simp [get] at this
          · omega
      subst e
      have hb : b = b' := by have := h j; simpa [get] using this
      subst hb
      congr 1
      refine ih h2 h2' fun k => ?_
      by_cases hk : j = k
      · subst hk; rw [get_none_of_lt h1, get_none_of_lt h1']
      · have := h k; simpa [get, hk] using this
theorem keys_nodup {l : List (Int × α)} (h : Sorted l) : (l.map (·.1)).Nodup := by
  rw [List.Nodup, List.pairwise_map]
  exact h.imp fun h => by omega
end AL

/-! ### the block of a map with int keys -/

/-- block b is a map whose entries are those of l (kept sorted here), element values by enc -/
def IsMap {α : Type} (w : World) (b : Nat) (enc : α → Value) (l : List (Int × α)) : Prop :=
  ∃ es clock, w.heap[b]? = some (.map es clock) ∧ Stamped es clock ∧ AL.Sorted l ∧
    (es.toList.map fun e => (e.key, e.val)).Perm (l.map fun p => (Value.int .i64 p.1, enc p.2))

section
variable {α : Type} {P : Program} {w : World} {b : Nat} {enc : α → Value} {l : List (Int × α)}

theorem IsMap.sorted (h : IsMap w b enc l) : AL.Sorted l := by obtain ⟨_, _, _, _, h, _⟩ := h; exact h
theorem IsMap.lt (h : IsMap w b enc l) : b < w.heap.size := by
  obtain ⟨es, clock, hb, _⟩ := h
  exact (Array.getElem?_eq_some_iff.1 hb).1
theorem IsMap.of_block {w' : World} (h : IsMap w b enc l) (hb : w'.heap[b]? = w.heap[b]?) : IsMap w' b enc l := by
  obtain ⟨es, clock, h1, h2⟩ := h
  exact ⟨es, clock, hb.trans h1, h2⟩
theorem IsMap.made (w : World) (enc : α → Value) : IsMap (w.alloc (.map #[] 0)) w.heap.size enc ([] : List (Int × α)) :=
  ⟨#[], 0, heap_alloc_new w _, stamped_empty 0, AL.sorted_nil, by simp⟩

theorem findNow_int (k : Int) : ∀ (es : List MapEntry) (i : Nat), (∀ e ∈ es, ∃ j, e.key = .int .i64 j) →
    (∃ pre e post, es = pre ++ e :: post ∧ e.key = .int .i64 k ∧ Instr.findNow (.int .i64) (.int .i64 k) es i = some (some (i + pre.length, e.val))) ∨
    ((∀ e ∈ es, e.key ≠ .int .i64 k) ∧ Instr.findNow (.int .i64) (.int .i64 k) es i = some none)
  | [], i, _ => .inr ⟨by simp, rfl⟩
  | e :: r, i, h => by
    obtain ⟨j, hj⟩ := h e (by simp)
    by_cases hk : j = k
    · subst hk
      exact .inl ⟨[], e, r, rfl, hj, by simp [Instr.findNow, hj, Instr.sameNow]⟩
    · have hne : (k == j) = false := by simp; omega
      rcases findNow_int k r (i + 1) (fun e he => h e (by simp [he])) with ⟨pre, e', post, h1, h2, h3⟩ | ⟨h1, h2⟩
      · refine .inl ⟨e :: pre, e', post, by simp [h1], h2, ?_⟩
        simp only [Instr.findNow, hj, Instr.sameNow, if_true, hne, h3, List.length_cons]
        congr 3; omega
      · refine .inr ⟨?_, ?_⟩
        · intro x hx
          rcases List.mem_cons.1 hx with hx | hx
          · subst hx; rw [hj]; simp; exact hk
          · exact h1 x hx
        · simp only [Instr.findNow, hj, Instr.sameNow, if_true, hne, h2]

theorem run_findKey {kt : TypeId} (hk : P.underlying kt = some (.int .i64)) {w : World} {k : Int} {es : List MapEntry} {r : Option (Nat × Value)}
    (h : Instr.findNow (.int .i64) (.int .i64 k) es 0 = some r) : (Instr.findKey kt (.int .i64 k) es).run P w = .ok r w := by
  simp [Instr.findKey, run_underlying hk, h]
theorem run_checkKey {kt : TypeId} (hk : P.underlying kt = some (.int .i64)) {w : World} {k : Int} (e : Bool) :
    (Instr.checkKey e 10000 kt (.int .i64 k)).run P w = .ok () w := by
  have h : ∀ n, (Instr.checkKey e (n + 1) kt (.int .i64 k)).run P w = .ok () w := fun n => by simp [Instr.checkKey, run_underlying hk]
  exact h 9999
theorem run_getObj_map {w : World} {b : Nat} {es : Array MapEntry} {clock : Nat} (h : w.heap[b]? = some (.map es clock)) : (getObj b).run P w = .ok (.map es clock) w := by
  simp [getObj, Sem.run, h]

theorem keys_int {es : Array MapEntry} (hp : (es.toList.map fun e => (e.key, e.val)).Perm (l.map fun p => (Value.int .i64 p.1, enc p.2))) :
    ∀ e ∈ es.toList, ∃ j a, e.key = .int .i64 j ∧ e.val = enc a ∧ (j, a) ∈ l := by
  intro e he
  have h1 : (e.key, e.val) ∈ l.map fun p => (Value.int .i64 p.1, enc p.2) := hp.mem_iff.1 (List.mem_map.2 ⟨e, he, rfl⟩)
  obtain ⟨p, hp1, hp2⟩ := List.mem_map.1 h1
  simp only [Prod.mk.injEq] at hp2
  exact ⟨p.1, p.2, hp2.1.symm, hp2.2.symm, hp1⟩

/-- where a key is -/
theorem IsMap.find (h : IsMap w b enc l) (k : Int) :
    ∃ es clock, w.heap[b]? = some (.map es clock) ∧ Stamped es clock ∧ AL.Sorted l ∧ (es.toList.map fun e => (e.key, e.val)).Perm (l.map fun p => (Value.int .i64 p.1, enc p.2)) ∧
    ((∃ a pre e post, AL.get k l = some a ∧ es.toList = pre ++ e :: post ∧ e.key = .int .i64 k ∧ e.val = enc a ∧ Instr.findNow (.int .i64) (.int .i64 k) es.toList 0 = some (some (pre.length, enc a))) ∨
     (AL.get k l = none ∧ (∀ e ∈ es.toList, e.key ≠ .int .i64 k) ∧ Instr.findNow (.int .i64) (.int .i64 k) es.toList 0 = some none)) := by
  obtain ⟨es, clock, hb, hs, hl, hp⟩ := h
  refine ⟨es, clock, hb, hs, hl, hp, ?_⟩
  have hki := keys_int hp
  rcases findNow_int k es.toList 0 (fun e he => by obtain ⟨j, _, h, _⟩ := hki e he; exact ⟨j, h⟩) with ⟨pre, e, post, h1, h2, h3⟩ | ⟨h1, h2⟩
  · left
    obtain ⟨j, a, hj, ha, hm⟩ := hki e (by rw [h1]; simp)
    rw [h2] at hj
    obtain rfl : k = j := by simpa using hj
    exact ⟨a, pre, e, post, (AL.get_some_iff hl).2 hm, h1, h2, ha, by rw [h3, ha]; simp⟩
  · right
    refine ⟨?_, h1, h2⟩
    rw [AL.get_none_iff]
    intro p hp1 hpk
    have hm : (Value.int .i64 p.1, enc p.2) ∈ es.toList.map fun e => (e.key, e.val) := hp.mem_iff.2 (List.mem_map.2 ⟨p, hp1, rfl⟩)
    obtain ⟨e, he, he2⟩ := List.mem_map.1 hm
    simp only [Prod.mk.injEq] at he2
    exact h1 e he (by rw [he2.1, hpk])

theorem IsMap.run_lookup_some {t kt e : TypeId} (ht : P.underlying t = some (.map kt e)) (hk : P.underlying kt = some (.int .i64)) (h : IsMap w b enc l) {k : Int} {a : α} (hg : AL.get k l = some a) (c : Bool) :
    (Instr.lookup t (.map (some b)) (.int .i64 k) c).run P w = .ok (if c then .tuple #[enc a, .bool true] else enc a) w := by
  obtain ⟨es, clock, hb, _, _, _, hr⟩ := h.find k
  rcases hr with ⟨a', pre, e, post, h1, _, _, _, h5⟩ | ⟨h1, _, _⟩
  · rw [hg] at h1; cases h1
    simp [Instr.lookup, run_underlying ht, run_getObj_map hb, run_checkKey hk, run_findKey hk h5]
  · rw [hg] at h1; cases h1
theorem IsMap.run_lookup_none {t kt e : TypeId} (ht : P.underlying t = some (.map kt e)) (hk : P.underlying kt = some (.int .i64)) {z : Value} (hz : (zeroValue e).run P w = .ok z w) (h : IsMap w b enc l) {k : Int} (hg : AL.get k l = none) (c : Bool) :
    (Instr.lookup t (.map (some b)) (.int .i64 k) c).run P w = .ok (if c then .tuple #[z, .bool false] else z) w := by
  obtain ⟨es, clock, hb, _, _, _, hr⟩ := h.find k
  rcases hr with ⟨a', pre, e, post, h1, _, _, _, h5⟩ | ⟨h1, _, h5⟩
  · rw [hg] at h1; cases h1
  · simp [Instr.lookup, run_underlying ht, run_getObj_map hb, run_checkKey hk, run_findKey hk h5, hz]

theorem wpList_lookup_im {ops : Array Oper} {rest : List Oper} {o : Oper} {a : Act} {Q : Exit → Act → World → Prop} (hg : o.guard = none) (m x : Operand) (t : TypeId) (c : Bool) (hop : o.op = Op.lookup t m x c)
    {kt e : TypeId} (ht : P.underlying t = some (.map kt e)) (hk : P.underlying kt = some (.int .i64)) (z : Value) (hz : (zeroValue e).run P w = .ok z w) (hm : a.eval m = .map (some b)) (k : Int) (hx : a.eval x = .int .i64 k) (h : IsMap w b enc l)
    (hK : wpList P ops Q rest (a.put o.dst (if c then .tuple #[((AL.get k l).map enc).getD z, .bool (AL.get k l).isSome] else ((AL.get k l).map enc).getD z)) w) : wpList P ops Q (o :: rest) a w := by
  refine wpList_plain hg fun K' hK' => ?_
  have hrun : (Instr.lookup t (.map (some b)) (.int .i64 k) c).run P w = .ok (if c then .tuple #[((AL.get k l).map enc).getD z, .bool (AL.get k l).isSome] else ((AL.get k l).map enc).getD z) w := by
    cases hg : AL.get k l with
    | none => simpa using h.run_lookup_none ht hk hz hg c
    | some v => simpa using h.run_lookup_some ht hk hg c
  unfold Oper.wp
  simp only [execOp, hop, hm, hx, Sem.run_bind, hrun, Result.andThen_ok, Sem.run_pure, Oper.upon_value]
  exact hK' _ _ hK
theorem IsMap.length (h : IsMap w b enc l) : ∃ es clock, w.heap[b]? = some (.map es clock) ∧ es.size = l.length := by
  obtain ⟨es, clock, hb, _, _, hp⟩ := h
  exact ⟨es, clock, hb, by simpa using hp.length_eq⟩
end

/-- the number in a slot, for a loop's measure -/
def vInt : Value → Int | .int _ q => q | _ => 0

/-! ### the frame: nothing that was there has turned but the blocks in S -/
structure Keep (S : List Nat) (w w' : World) : Prop where
  os : w'.os = w.os
  tape : w'.tape = w.tape
  output : w'.output = w.output
  size : w.heap.size ≤ w'.heap.size
  block : ∀ k, k < w.heap.size → k ∉ S → w'.heap[k]? = w.heap[k]?

theorem Keep.refl (S : List Nat) (w : World) : Keep S w w := ⟨rfl, rfl, rfl, Nat.le_refl _, fun _ _ _ => rfl⟩
theorem Keep.trans {S T U : List Nat} {a b c : World} (h : Keep S a b) (k : Keep T b c) (hS : ∀ x ∈ S, x ∈ U) (hT : ∀ x ∈ T, x ∈ U ∨ a.heap.size ≤ x) : Keep U a c :=
  ⟨k.os.trans h.os, k.tape.trans h.tape, k.output.trans h.output, Nat.le_trans h.size k.size, fun i hi hn => by
    have h1 : i ∉ S := fun q => hn (hS i q)
    have h2 : i ∉ T := fun q => by
      rcases hT i q with q | q
      · exact hn q
      · omega
    exact (k.block i (Nat.lt_of_lt_of_le hi h.size) h2).trans (h.block i hi h1)⟩
theorem Keep.mono {S T : List Nat} {a b : World} (h : Keep S a b) (hS : ∀ x ∈ S, x ∈ T ∨ a.heap.size ≤ x) : Keep T a b :=
  ⟨h.os, h.tape, h.output, h.size, fun i hi hn => h.block i hi fun q => by
    rcases hS i q with q | q
    · exact hn q
    · omega⟩
theorem Keep.alloc {S : List Nat} {a w : World} (h : Keep S a w) (o : Obj) : Keep S a (w.alloc o) :=
  h.trans (T := []) ⟨rfl, rfl, rfl, by simp, fun k hk _ => Below.heap_alloc _ _ _ hk⟩ (fun _ h => h) (fun _ h => by cases h)
theorem Keep.drew {S : List Nat} {a w : World} (h : Keep S a w) : Keep S a w.drew := ⟨h.os, h.tape, h.output, h.size, h.block⟩
theorem Keep.setCell {S : List Nat} {a w : World} (h : Keep S a w) (p : Addr) (u : Value) (hp : p.block ∈ S ∨ a.heap.size ≤ p.block) : Keep S a (w.setCell p u) :=
  h.trans (T := [p.block]) ⟨rfl, rfl, rfl, by simp [World.setCell], fun k _ hn => Below.heap_setCell _ _ _ _ (by simpa using hn)⟩ (fun _ h => h) (fun x h => by
    obtain rfl : x = p.block := by simpa using h
    exact hp)
theorem Keep.below {w w' : World} (h : Keep [] w w') : Below w.heap.size w w' := ⟨h.os, h.tape, h.output, h.size, fun k hk => h.block k hk (by simp)⟩
theorem Keep.of_below {w w' : World} (h : Below w.heap.size w w') (S : List Nat) : Keep S w w' := ⟨h.os, h.tape, h.output, h.size, fun k hk _ => h.block k hk⟩
/-- a block that was known, and isn't among S -/
theorem Keep.at {S : List Nat} {w w' : World} (h : Keep S w w') {b : Nat} {o : Obj} (hb : w.heap[b]? = some o) (hn : b ∉ S) : w'.heap[b]? = some o :=
  (h.block b (Array.getElem?_eq_some_iff.1 hb).1 hn).trans hb
theorem lt_of_block {w : World} {b : Nat} {o : Obj} (hb : w.heap[b]? = some o) : b < w.heap.size := (Array.getElem?_eq_some_iff.1 hb).1
/-- the cells of a known block, for the walk -/
theorem cells_of {w : World} {b : Nat} {cs : Array Value} {t : TypeId} (hb : w.heap[b]? = some (.cells cs t (0, 0))) : (∀ j, w.cell? ⟨b, j, none⟩ = cs[j]?) ∧ (∀ j, w.frozen? ⟨b, j, none⟩ = false) ∧ b < w.heap.size :=
  ⟨fun j => cell_of_row w b j cs t (0, 0) hb, fun j => frozen_of_row w b j cs t hb, lt_of_block hb⟩

/-- a block's object replaced -/
def setObjAt (w : World) (b : Nat) (o : Obj) : World := { w with heap := w.heap.setIfInBounds b o }
theorem setObjAt_same {w : World} {b : Nat} {o o' : Obj} (h : w.heap[b]? = some o) : (setObjAt w b o').heap[b]? = some o' := by
  have := lt_of_block h
  simp [setObjAt, this]
theorem setObjAt_other {w : World} {b k : Nat} {o' : Obj} (h : k ≠ b) : (setObjAt w b o').heap[k]? = w.heap[k]? := by
  simp [setObjAt, Ne.symm h]
theorem Keep.setObjAt {S : List Nat} {a w : World} (h : Keep S a w) (b : Nat) (o : Obj) (hp : b ∈ S ∨ a.heap.size ≤ b) : Keep S a (setObjAt w b o) :=
  h.trans (T := [b]) ⟨rfl, rfl, rfl, by simp [Ytaldkgnpkeekhaa.setObjAt], fun k _ hn => setObjAt_other (by simpa using hn)⟩ (fun _ h => h) (fun x h => by
    obtain rfl : x = b := by simpa using h
    exact hp)
theorem run_setObj_map {P : Program} {w : World} {b : Nat} {es : Array MapEntry} {clock : Nat} (h : w.heap[b]? = some (.map es clock)) (o : Obj) : (setObj b o).run P w = .ok () (setObjAt w b o) := by
  simp [setObj, Sem.run, h, setObjAt]

section
variable {α : Type} {P : Program} {w : World} {b : Nat} {enc : α → Value} {l : List (Int × α)}

theorem map_modify_pairs {es : Array MapEntry} {pre post : List MapEntry} {e : MapEntry} {f : MapEntry → MapEntry} (h : es.toList = pre ++ e :: post) : (es.modify pre.length f).toList = pre ++ f e :: post := by
  rw [Array.toList_modify, h]
  clear h
  induction pre with
  | nil => simp
  | cons x r ih => simp [ih]

/-- a store -/
theorem IsMap.run_update {t kt e : TypeId} (ht : P.underlying t = some (.map kt e)) (hk : P.underlying kt = some (.int .i64)) (h : IsMap w b enc l) (k : Int) (a : α) :
    ∃ w', (Instr.mapUpdate t (.map (some b)) (.int .i64 k) (enc a)).run P w = .ok () w' ∧ IsMap w' b enc (AL.put k a l) ∧ Keep [b] w w' ∧ w'.drawn = w.drawn ∧ w'.heap.size = w.heap.size := by
  obtain ⟨es, clock, hb, hs, hl, hp, hr⟩ := h.find k
  rcases hr with ⟨a', pre, e, post, h1, h2, h3, h4, h5⟩ | ⟨h1, h2, h5⟩
  · have hei : es[pre.length]? = some e := by
      rw [← Array.getElem?_toList, h2]; simp
    refine ⟨setObjAt w b (.map (es.modify pre.length fun e => { e with key := .int .i64 k, val := enc a }) clock), ?_, ⟨_, _, setObjAt_same hb, ?_, AL.sorted_put hl, ?_⟩, (Keep.refl _ _).setObjAt b _ (by simp), rfl, by simp [setObjAt]⟩
    · simp [Instr.mapUpdate, run_underlying ht, run_getObj_map hb, run_checkKey hk, run_findKey hk h5, hei, h3, Instr.keyThatStays, Instr.sameBits, run_setObj_map hb]
    · refine stamped_modify hs _ _ (fun _ _ => rfl) (fun x _ hx => ?_)
      rw [hei] at hx; cases hx; exact h3.symm
    · rw [map_modify_pairs h2]
      rw [h2] at hp
      have p1 : ((Value.int .i64 k, enc a') :: (pre ++ post).map fun e => (e.key, e.val)).Perm ((Value.int .i64 k, enc a') :: (AL.del k l).map fun p => (Value.int .i64 p.1, enc p.2)) := by
        refine List.Perm.trans ?_ (hp.trans ((AL.perm_of_get h1).map _))
        rw [List.map_append, List.map_append, List.map_cons, h3, h4]
        exact List.perm_middle.symm
      have p2 := p1.cons_inv
      refine List.Perm.trans ?_ ((AL.put_perm hl).map _).symm
      rw [List.map_append, List.map_cons]
      refine List.perm_middle.trans ?_
      rw [← List.map_append]
      exact p2.cons _
  · refine ⟨setObjAt w b (.map (es.push { key := .int .i64 k, val := enc a, born := clock }) (clock + 1)), ?_, ⟨_, _, setObjAt_same hb, stamped_push hs h2, AL.sorted_put hl, ?_⟩, (Keep.refl _ _).setObjAt b _ (by simp), rfl, by simp [setObjAt]⟩
    · simp [Instr.mapUpdate, run_underlying ht, run_getObj_map hb, run_checkKey hk, run_findKey hk h5, run_setObj_map hb]
    · refine List.Perm.trans ?_ ((AL.put_perm hl).map _).symm
      rw [AL.del_of_none h1, Array.toList_push, List.map_append, List.map_cons, List.map_cons]
      exact (List.perm_append_comm).trans (hp.cons _)

/-- a delete -/
theorem IsMap.run_delete {t kt e k2 : TypeId} {ty : TypeId} (ht : P.underlying t = some (.map kt e)) (hk : P.underlying kt = some (.int .i64)) (h : IsMap w b enc l) (k : Int) :
    ∃ w', (Builtin.delete_ #[t, k2] ty #[.map (some b), .int .i64 k]).run P w = .ok (.tuple #[]) w' ∧ IsMap w' b enc (AL.del k l) ∧ Keep [b] w w' ∧ w'.drawn = w.drawn ∧ w'.heap.size = w.heap.size := by
  obtain ⟨es, clock, hb, hs, hl, hp, hr⟩ := h.find k
  rcases hr with ⟨a', pre, e, post, h1, h2, h3, h4, h5⟩ | ⟨h1, h2, h5⟩
  · refine ⟨setObjAt w b (.map (es.eraseIdxIfInBounds pre.length) clock), ?_, ⟨_, _, setObjAt_same hb, stamped_erase hs _, AL.sorted_del hl, ?_⟩, (Keep.refl _ _).setObjAt b _ (by simp), rfl, by simp [setObjAt]⟩
    · simp [Builtin.delete_, run_underlying ht, run_getObj_map hb, run_checkKey hk, run_findKey hk h5, run_setObj_map hb]
    · have e1 : (es.eraseIdxIfInBounds pre.length).toList = pre ++ post := by
        rw [Array.toList_eraseIdxIfInBounds, h2]
        simp [List.eraseIdx_append_of_length_le]
      rw [e1]
      rw [h2] at hp
      refine List.Perm.cons_inv (a := (Value.int .i64 k, enc a')) ?_
      refine List.Perm.trans ?_ (hp.trans ((AL.perm_of_get h1).map _))
      rw [List.map_append, List.map_append, List.map_cons, h3, h4]
      exact List.perm_middle.symm
  · refine ⟨setObjAt w b (.map es clock), ?_, ⟨_, _, setObjAt_same hb, hs, AL.sorted_del hl, ?_⟩, (Keep.refl _ _).setObjAt b _ (by simp), rfl, by simp [setObjAt]⟩
    · simp [Builtin.delete_, run_underlying ht, run_getObj_map hb, run_checkKey hk, run_findKey hk h5, run_setObj_map hb]
    · rw [AL.del_of_none h1]; exact hp

/-- clear -/
theorem IsMap.run_clear {t kt e : TypeId} {ty : TypeId} (ht : P.underlying t = some (.map kt e)) (h : IsMap w b enc l) :
    ∃ w', (Builtin.clear_ #[t] ty #[.map (some b)]).run P w = .ok (.tuple #[]) w' ∧ IsMap w' b enc ([] : List (Int × α)) ∧ Keep [b] w w' ∧ w'.drawn = w.drawn ∧ w'.heap.size = w.heap.size := by
  obtain ⟨es, clock, hb, hs, hl, hp⟩ := h
  refine ⟨setObjAt w b (.map #[] clock), ?_, ⟨_, _, setObjAt_same hb, stamped_empty _, AL.sorted_nil, by simp⟩, (Keep.refl _ _).setObjAt b _ (by simp), rfl, by simp [setObjAt]⟩
  simp [Builtin.clear_, run_underlying ht, run_getObj_map hb, run_setObj_map hb]
end
theorem Keep.grown {S : List Nat} {a w w' : World} {row : Option Nat} (h : Keep S a w) (hg : w.grownBy w' row) (hr : ∀ k, row = some k → k ∈ S ∨ a.heap.size ≤ k) : Keep S a w' :=
  h.trans (T := row.toList) ⟨hg.os, hg.tape, hg.output, hg.size, fun k hk hn => hg.block k hk (fun e => hn (by rw [← e]; simp))⟩ (fun _ h => h) (fun x hx => hr x (by simpa using hx))
theorem cell_alloc {w : World} {a : Addr} {u : Value} (h : w.cell? a = some u) (o : Obj) : (w.alloc o).cell? a = some u :=
  (World.cell?_of_block (w := w) (Below.heap_alloc w o _ (block_lt_of_cell h))).trans h
theorem wpList_store_new {P : Program} {ops : Array Oper} {rest : List Oper} {o : Oper} {a : Act} {w : World} {Q : Exit → Act → World → Prop} (hgd : o.guard = none) (ty : TypeId) (x y : Operand) (ho : o.op = .store ty x y)
    {t : TypeId} {old : Array Value} (cells : Array Value) (hx : a.eval x = .pointer (some ⟨w.heap.size, 0, none⟩)) (hy : a.eval y = .agg cells)
    (hi : (P.info? ty).map (·.size) = some cells.size) (hold : old.size = cells.size) (h1 : cells.all (·.oneCell') = true)
    (h : wpList P ops Q rest (a.put o.dst undef) (w.alloc (.cells cells t))) : wpList P ops Q (o :: rest) a (w.alloc (.cells old t)) :=
  wpList_store_row hgd ty x y ho w.heap.size cells hx hy t old (heap_alloc_new w _) hi hold h1 (by rw [World.setRow_alloc_new]; exact h)
theorem ownsRow_mono {w : World} {base base' : Nat} {e : TypeId} {size : Nat} {v : Value} {n : Nat} {xs : List Value} (h : w.ownsRow base e size v n xs) (hb : base' ≤ base) : w.ownsRow base' e size v n xs := by
  obtain ⟨h1, h2⟩ := h
  refine ⟨h1, ?_⟩
  rcases h2 with h2 | ⟨g, cap, cur, hv, hg, r⟩
  · exact .inl h2
  · exact .inr ⟨g, cap, cur, hv, Nat.le_trans hb hg, r⟩
/-- two steps of which neither touches what was there -/
theorem Keep.then {a b c : World} (h : Keep [] a b) (k : Keep [] b c) : Keep [] a c := h.trans k (fun _ h => h) (fun _ h => by cases h)
theorem heap_alloc_at (w : World) (o : Obj) {k : Nat} (h : k = w.heap.size) : (w.alloc o).heap[k]? = some o := by subst h; exact heap_alloc_new w o
theorem IsMap.other {α : Type} {w : World} {b : Nat} {enc : α → Value} {l : List (Int × α)} (h : IsMap w b enc l) (o : Obj) : IsMap (w.alloc o) b enc l :=
  h.of_block (Below.heap_alloc w o _ h.lt)
theorem IsMap.drew {α : Type} {w : World} {b : Nat} {enc : α → Value} {l : List (Int × α)} (h : IsMap w b enc l) : IsMap w.drew b enc l := h
theorem IsMap.made_at {α : Type} (w : World) (enc : α → Value) {k : Nat} (h : k = w.heap.size) : IsMap (w.alloc (.map #[] 0)) k enc ([] : List (Int × α)) := by subst h; exact IsMap.made w enc
end Go.Proofs.Ytaldkgnpkeekhaa
