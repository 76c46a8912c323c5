/-
  Groundwork: slices whose elements take several cells, as flattened lists; how they are read; byte lists.
-/
import Derived.Test.YtaldkgnpkeekhaaBaseB
import Derived.Deep.Draws
namespace Go.Proofs.Ytaldkgnpkeekhaa
open Go.RowKit Go.MapKept

section
variable {β : Type} {f : β → List Value} {k : Nat}
def flat (f : β → List Value) (L : List β) : List Value := L.flatMap f
theorem flat_nil : flat f [] = [] := rfl
theorem flat_cons (x : β) (L : List β) : flat f (x :: L) = f x ++ flat f L := by simp [flat]
theorem flat_append (L M : List β) : flat f (L ++ M) = flat f L ++ flat f M := by simp [flat]
theorem flat_snoc (L : List β) (x : β) : flat f (L ++ [x]) = flat f L ++ f x := by simp [flat]
theorem flat_length (hf : ∀ x, (f x).length = k) (L : List β) : (flat f L).length = L.length * k := by
  induction L with
  | nil => simp [flat]
  | cons x r ih => rw [flat_cons, List.length_append, hf, ih, List.length_cons, Nat.add_mul]; omega
theorem flat_get (hf : ∀ x, (f x).length = k) (L : List β) (i c : Nat) (hi : i < L.length) (hc : c < k) : (flat f L)[i * k + c]? = (f L[i])[c]? := by
  induction L generalizing i with
  | nil => simp at hi
  | cons x r ih =>
    rw [flat_cons]
    cases i with
    | zero => rw [Nat.zero_mul, Nat.zero_add, List.getElem?_append_left (by rw [hf]; exact hc)]; rfl
    | succ i =>
      rw [List.getElem?_append_right (by rw [hf, Nat.add_mul]; omega), hf]
      have := ih i (by simpa using hi)
      rw [show (i + 1) * k + c - k = i * k + c by rw [Nat.add_mul]; omega, this]
      simp
end

/-- an owned slice of elements of k cells: its shape, and where its cells are -/
theorem own_cells {w : World} {base : Nat} {e : TypeId} {k : Nat} {v : Value} {n : Nat} {xs : List Value} (h : w.ownsRow base e k v n xs) :
    ∃ a cap, v = .slice a n cap ∧ (∀ j u, xs[j]? = some u → ∃ g, a = some ⟨g, 0, none⟩ ∧ w.cell? ⟨g, j, none⟩ = some u) ∧ (∀ ad, a = some ad → base ≤ ad.block) ∧ n ≤ maxLen := by
  obtain ⟨h1, ⟨rfl, rfl⟩ | ⟨g, cap, cur, rfl, hg, hb, hn, hm, hs, ht⟩⟩ := h
  · refine ⟨none, 0, rfl, ?_, by simp, Nat.zero_le _⟩
    intro j u hu
    obtain rfl : xs = [] := List.eq_nil_of_length_eq_zero (by simpa using h1)
    simp at hu
  · refine ⟨some ⟨g, 0, none⟩, cap, rfl, ?_, ?_, Nat.le_trans hn hm⟩
    · intro j u hu
      refine ⟨g, rfl, ?_⟩
      rw [cell_of_row w g j cur e (0, 0) hb]
      rw [← ht, List.getElem?_take] at hu
      split at hu
      · simpa using hu
      · cases hu
    · intro ad had; cases had; exact hg
/-- an owned slice stays what it is, while no block of its element type is written -/
theorem own_keep {w w' : World} {base : Nat} {e : TypeId} {k : Nat} {v : Value} {n : Nat} {xs : List Value} {S : List Nat} (h : w.ownsRow base e k v n xs) (kp : Keep S w w')
    (hS : ∀ b ∈ S, ∀ cs fr, w.heap[b]? ≠ some (.cells cs e fr)) : w'.ownsRow base e k v n xs := by
  obtain ⟨h1, h2 | ⟨g, cap, cur, hv, hg, hb, r⟩⟩ := h
  · exact ⟨h1, .inl h2⟩
  · exact ⟨h1, .inr ⟨g, cap, cur, hv, hg, kp.at hb (fun q => hS g q _ _ hb), r⟩⟩
theorem own_keep0 {w w' : World} {base : Nat} {e : TypeId} {k : Nat} {v : Value} {n : Nat} {xs : List Value} (h : w.ownsRow base e k v n xs) (kp : Keep [] w w') : w'.ownsRow base e k v n xs :=
  own_keep h kp (fun _ h => by cases h)
theorem own_nil (w : World) (base : Nat) (e : TypeId) (k : Nat) : w.ownsRow base e k (.slice none 0 0) 0 [] := ⟨by simp, .inl ⟨rfl, rfl⟩⟩
theorem own_drewN {w : World} {base : Nat} {e : TypeId} {k : Nat} {v : Value} {n : Nat} {xs : List Value} (h : w.ownsRow base e k v n xs) (q : Nat) : (w.drewN q).ownsRow base e k v n xs := h
theorem drewN_add (w : World) (a b : Nat) : (w.drewN a).drewN b = w.drewN (a + b) := by simp [World.drewN, Nat.add_assoc]
theorem Keep.drewN {S : List Nat} {a w : World} (h : Keep S a w) (n : Nat) : Keep S a (w.drewN n) := ⟨h.os, h.tape, h.output, h.size, h.block⟩
theorem IsMap.drewN {α : Type} {w : World} {b : Nat} {enc : α → Value} {l : List (Int × α)} (h : IsMap w b enc l) (n : Nat) : IsMap (w.drewN n) b enc l := h

/-- what is read of a slice value .slice a n cap: the cells xs, behind none of the blocks S -/
structure Src (w : World) (a : Option Addr) (xs : List Value) (S : List Nat) : Prop where
  at_ : 0 < xs.length → ∃ ad, a = some ad ∧ ∀ j u, xs[j]? = some u → w.cell? (ad.add j) = some u
  off : ∀ ad, a = some ad → ad.block ∉ S

theorem Addr.add_block (a : Addr) (j : Nat) : (a.add j).block = a.block := by unfold Addr.add; split <;> rfl
theorem Addr.add_flat (g o j : Nat) : (⟨g, o, none⟩ : Addr).add j = ⟨g, o + j, none⟩ := by unfold Addr.add; split <;> simp_all
theorem Src.keep {w w' : World} {a : Option Addr} {xs : List Value} {S T : List Nat} (h : Src w a xs S) (k : Keep T w w') (hT : ∀ x ∈ T, x ∈ S) : Src w' a xs S :=
  ⟨fun hp => by
    obtain ⟨ad, rfl, hc⟩ := h.at_ hp
    refine ⟨ad, rfl, fun j u hu => ?_⟩
    have h1 := hc j u hu
    have hb : (ad.add j).block ∉ T := by rw [Addr.add_block]; exact fun q => h.off ad rfl (hT _ q)
    exact (World.cell?_of_block (w := w) (k.block _ (block_lt_of_cell h1) hb)).trans h1, h.off⟩
theorem Src.alloc {w : World} {a : Option Addr} {xs : List Value} {S : List Nat} (h : Src w a xs S) (o : Obj) : Src (w.alloc o) a xs S :=
  h.keep ((Keep.refl [] w).alloc o) (fun _ h => by cases h)
theorem Src.drewN {w : World} {a : Option Addr} {xs : List Value} {S : List Nat} (h : Src w a xs S) (n : Nat) : Src (w.drewN n) a xs S := ⟨h.at_, h.off⟩
theorem Src.weaken {w : World} {a : Option Addr} {xs : List Value} {S T : List Nat} (h : Src w a xs S) (hT : ∀ x ∈ T, x ∈ S) : Src w a xs T := ⟨h.at_, fun ad ha q => h.off ad ha (hT _ q)⟩
/-- an owned slice, as one that is read -/
theorem own_src {w : World} {base : Nat} {e : TypeId} {k : Nat} {v : Value} {n : Nat} {xs : List Value} (h : w.ownsRow base e k v n xs) {S : List Nat} (hS : ∀ b ∈ S, ∀ cs fr, w.heap[b]? ≠ some (.cells cs e fr)) :
    ∃ a cap, v = .slice a n cap ∧ Src w a xs S ∧ n ≤ maxLen := by
  obtain ⟨h1, ⟨rfl, rfl⟩ | ⟨g, cap, cur, rfl, hg, hb, hn, hm, hs, ht⟩⟩ := h
  · refine ⟨none, 0, rfl, ⟨fun hp => ?_, by simp⟩, Nat.zero_le _⟩
    rw [h1] at hp; simp at hp
  · refine ⟨some ⟨g, 0, none⟩, cap, rfl, ⟨fun _ => ⟨_, rfl, fun j u hu => ?_⟩, ?_⟩, Nat.le_trans hn hm⟩
    · rw [Addr.add_flat, Nat.zero_add, cell_of_row w g j cur e (0, 0) hb]
      rw [← ht, List.getElem?_take] at hu
      split at hu
      · simpa using hu
      · cases hu
    · intro ad had q
      cases had
      exact hS g q _ _ hb
/-- the cell of an element of one cell -/
theorem Src.one {w : World} {a : Option Addr} {xs : List Value} {S : List Nat} (h : Src w a xs S) {j : Nat} {u : Value} (hj : xs[j]? = some u) : ∃ ad, a = some ad ∧ w.cell? (ad.add j) = some u := by
  obtain ⟨hlt, _⟩ := List.getElem?_eq_some_iff.1 hj
  obtain ⟨ad, h1, h2⟩ := h.at_ (by omega)
  exact ⟨ad, h1, h2 j u hj⟩

def bytes (l : List Int) : List Value := l.map (Value.int .u8)
theorem bytes_one (l : List Int) : ∀ u ∈ bytes l, u.oneCell' = true := by
  intro u hu; simp only [bytes, List.mem_map] at hu; obtain ⟨z, _, rfl⟩ := hu; rfl
theorem bytes_all (l : List Int) : (bytes l).toArray.all (·.oneCell') = true := by
  simp only [List.all_toArray, List.all_eq_true]; exact bytes_one l
theorem bytes_length (l : List Int) : (bytes l).length = l.length := by simp [bytes]
theorem bytes_get {l : List Int} {j : Nat} (h : j < l.length) : (bytes l)[j]? = some (.int .u8 l[j]) := by simp [bytes, h]
theorem bytes_append (l m : List Int) : bytes (l ++ m) = bytes l ++ bytes m := by simp [bytes]

/-- a type's row of the table: its zero value, cells, bytes -/
def ElemInfo (P : Program) (e : TypeId) (z : Value) (size bytes : Nat) : Prop := (P.info? e).map (fun i => (i.zero, i.size, i.bytes)) = some (some z, size, bytes)

/-- append of one element to a slice of the call's own; the element's cells lie in the block made last -/
theorem wpList_append_one {P : Program} {w1 : World} {ops : Array Oper} {rest : List Oper} {o : Oper} {a : Act} {Q : Exit → Act → World → Prop} (hgd : o.guard = none) (s x : Operand) (t : TypeId)
    (ho : o.op = .call { callee := .builtin .append, args := #[s, x], argTypes := #[t, t] }) {base : Nat} {e : TypeId} {z : Value} {size bytes : Nat} (ht : P.underlying t = some (.slice e)) (I : ElemInfo P e z size bytes) (hzs : z.cells.size = size) (hsz : 0 < size)
    {n : Nat} {xs : List Value} (v : Value) (hs : a.eval s = v) (hown : w1.ownsRow base e size v n xs) (cs : List Value) (hcs : cs.length = size) (h1 : ∀ u ∈ cs, u.oneCell' = true)
    (hx : a.eval x = .slice (some ⟨w1.heap.size, 0, none⟩) 1 1) (h63 : n + 1 ≤ maxLen) (hbytes : (n + 1) * bytes ≤ 140737488355328) (hbase : base ≤ w1.heap.size)
    (h : ∀ v' w', w'.ownsRow base e size v' (n + 1) (xs ++ cs) → (∀ b, Keep [] b w1 → b.heap.size ≤ base → Keep [] b w') → v' ≠ .slice none 0 0 → wpList P ops Q rest (a.put o.dst v') w') :
    wpList P ops Q (o :: rest) a (w1.alloc (.cells cs.toArray e)) := by
  obtain ⟨i0, hi, hz0, hz1, hz2⟩ := info_parts I
  have hown' : (w1.alloc (.cells cs.toArray e)).ownsRow base e size v n xs := own_keep0 hown ((Keep.refl [] w1).alloc _)
  refine wpList_append_own _ hgd s x t ho base e i0 z size bytes ht hi hz0 hz1 hz2 hzs hsz v n xs hs hown' ⟨w1.heap.size, 0, none⟩ 1 1 cs hx (by rw [hcs]; omega) ?_ h1 h63 hbytes (by simp; omega) ?_
  · intro j u hu
    rw [Addr.add_flat, Nat.zero_add, cell_of_row _ _ j _ _ _ (heap_alloc_new w1 _)]
    simpa using hu
  · intro v' w' h2 h3 h4
    refine h v' w' h2 (fun b hb hsz => (hb.alloc _).grown h3 ?_) (fun e => by have := (h4.1 e).2; omega)
    intro k hk
    obtain ⟨_, ⟨rfl, _⟩ | ⟨g, cap, cur, rfl, hg, _⟩⟩ := hown'
    · simp [Value.ownBlock] at hk
    · simp [Value.ownBlock] at hk; subst hk; right; omega

/-- append of what a slice holds, to a slice of the call's own, as one step of a region that draws its order -/
theorem step_append_news {P : Program} {w1 : World} {ops : Array Oper} {o : Oper} {a : Act} {K : Act → World → Prop} {Q : Exit → Act → World → Prop} {E : Prop} (hgd : o.guard = none) (s x : Operand) (t : TypeId)
    (ho : o.op = .call { callee := .builtin .append, args := #[s, x], argTypes := #[t, t] }) {base : Nat} {e : TypeId} {z : Value} {size bytes : Nat} (ht : P.underlying t = some (.slice e)) (I : ElemInfo P e z size bytes) (hzs : z.cells.size = size) (hsz : 0 < size)
    {n : Nat} {xs : List Value} (v : Value) (hs : a.eval s = v) (hown : w1.ownsRow base e size v n xs) (ad : Addr) (m c : Nat) (news : List Value) (hx : a.eval x = .slice (some ad) m c) (hl : news.length = m * size)
    (hnews : ∀ j u, news[j]? = some u → w1.cell? (ad.add j) = some u) (h1 : ∀ u ∈ news, u.oneCell' = true) (h63 : n + m ≤ maxLen) (hbytes : (n + m) * bytes ≤ 140737488355328) (hbase : base ≤ w1.heap.size)
    (h : ∀ v' w', w'.ownsRow base e size v' (n + m) (xs ++ news) → (∀ b, Keep [] b w1 → b.heap.size ≤ base → Keep [] b w') → K (a.put o.dst v') w') :
    if Region.wanted o (yielded ops a.tmps) = true then Oper.wp P o a w1 K Q else E := by
  obtain ⟨i0, hi, hz0, hz1, hz2⟩ := info_parts I
  rw [if_pos (by simp [Region.wanted, hgd])]
  refine wp_append_own _ s x t ho base e i0 z size bytes ht hi hz0 hz1 hz2 hzs hsz v n xs hs hown ad m c news hx hl hnews h1 h63 hbytes hbase ?_
  intro v' w' h2 h3 _
  refine h v' w' h2 (fun b hb hsz => hb.grown h3 ?_)
  intro k hk
  obtain ⟨_, ⟨rfl, _⟩ | ⟨g, cap, cur, rfl, hg, _⟩⟩ := hown
  · simp [Value.ownBlock] at hk
  · simp [Value.ownBlock] at hk; subst hk; right; omega
/-- '[]T{}': an empty slice of the call's own -/
theorem own_empty (w : World) (e : TypeId) (k : Nat) : (w.alloc (.cells #[] e)).ownsRow w.heap.size e k (.slice (some ⟨w.heap.size, 0, none⟩) 0 0) 0 [] :=
  ⟨by simp, .inr ⟨w.heap.size, 0, #[], rfl, Nat.le_refl _, heap_alloc_new w _, Nat.le_refl _, by simp, by simp, by simp⟩⟩

/-- a struct or array loaded, wherever its cells lie -/
theorem run_loadVar_cells {P : Program} (w : World) (p : Addr) (ty : TypeId) (cs : List Value) (d : TypeDesc) (hc : ∀ j v, cs[j]? = some v → w.cell? (p.add j) = some v)
    (hu : P.underlying ty = some d) (hd : (match d with | .struct _ | .array _ _ => true | _ => false) = true) (hi : (P.info? ty).map (·.size) = some cs.length) :
    (loadVar ty p).run P w = .ok (.agg cs.toArray) w := by
  have hl : (loadCells p cs.length).run P w = .ok cs.toArray w := run_loadCells_list (P := P) w p cs hc
  cases hq : P.info? ty with
  | none => simp [hq] at hi
  | some i =>
    have hs : i.size = cs.length := by simpa [hq] using hi
    have hagg : (isAgg ty).run P w = .ok true w := by
      unfold isAgg
      rw [Sem.run_bind, run_underlying hu w]
      cases d <;> simp_all
    simp [loadVar, Sem.run_bind, hagg, sizeOf, typeInfo, hq, hs, hl]
theorem wpList_load_cells {P : Program} {w : World} {ops : Array Oper} {rest : List Oper} {o : Oper} {a : Act} {Q : Exit → Act → World → Prop} (hgd : o.guard = none) (ty : TypeId) (x : Operand) (ho : o.op = .load ty x)
    (p : Addr) (hx : a.eval x = .pointer (some p)) (cs : List Value) (d : TypeDesc) (hc : ∀ j v, cs[j]? = some v → w.cell? (p.add j) = some v)
    (hu : P.underlying ty = some d) (hd : (match d with | .struct _ | .array _ _ => true | _ => false) = true) (hi : (P.info? ty).map (·.size) = some cs.length)
    (h : wpList P ops Q rest (a.put o.dst (.agg cs.toArray)) w) : wpList P ops Q (o :: rest) a w := by
  refine wpList_plain hgd fun _ hK => ?_
  unfold Oper.wp execOp
  simp only [ho, hx, Instr.loadAt, Instr.sureAddr, Sem.run_bind, Sem.run_pure, Result.andThen_ok, run_loadVar_cells w p ty cs d hc hu hd hi]
  exact hK _ _ h
theorem Addr.add_add (a : Addr) (i j : Nat) : (a.add i).add j = a.add (i + j) := by
  unfold Addr.add
  split <;> split <;> simp_all [Nat.add_assoc]

theorem Src.flat {w : World} {a : Option Addr} {xs : List Value} {S : List Nat} (h : Src w a xs S) (hp : 0 < xs.length) : ∃ b o, a = some ⟨b, o, none⟩ ∧ ∀ j u, xs[j]? = some u → w.cell? ⟨b, o + j, none⟩ = some u := by
  obtain ⟨⟨b, o, sp⟩, rfl, hc⟩ := h.at_ hp
  have h0 := hc 0 xs[0] (by simp)
  have hsp : sp = none := by
    have e : (⟨b, o, sp⟩ : Addr).add 0 = ⟨b, o, sp⟩ := rfl
    rw [e] at h0
    unfold World.cell? at h0
    split at h0
    · split at h0
      · cases h0
      · rename_i hs; simpa using hs
    · cases h0
  subst hsp
  refine ⟨b, o, rfl, fun j u hu => ?_⟩
  rw [← Addr.add_flat]; exact hc j u hu
end Go.Proofs.Ytaldkgnpkeekhaa
