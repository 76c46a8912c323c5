/-
  Contracts of package degree: Parse.
-/
import Derived.Test.YtlnlbnpabaddkaaDoorTenD
import Derived.Shelf.Strconv.AtoiAll
import Derived.Shelf.Strconv.ErrVarAll
import Derived.Lib.AtoiAllCases
import Derived.Lib.PathFns
import Derived.Lib.IndexBytes
import Derived.WalkSpells
import Derived.Deep.QuietTactic
import Derived.BigQuiet
import Derived.IntWalk
import Derived.Deep.RegionHeld3
namespace Go.Proofs.YtlnlbnpabaddkaaDoor
open Go.RowKit

structure Env (w : World) : Prop where
  pow : Pow w
  syn : ∃ tp p, w.var? Tryd.prog "strconv.ErrSyntax" = some #[.iface tp p]
  rng : ∃ tp p, w.var? Tryd.prog "strconv.ErrRange" = some #[.iface tp p]
theorem var_on {w w' : World} {n : String} {cs : Array Value} (h : w.var? Tryd.prog n = some cs) (hb : Below w.heap.size w w') : w'.var? Tryd.prog n = some cs := by
  cases hg : Tryd.prog.globalNamed n with
  | none => unfold World.var? at h; simp [hg] at h
  | some g => exact Joins.var_stays hg h hb (Nat.le_refl _)
theorem Env.on {w w' : World} (h : Env w) (hb : Below w.heap.size w w') : Env w' :=
  ⟨var_on h.pow hb, by obtain ⟨a, b, c⟩ := h.syn; exact ⟨a, b, var_on c hb⟩, by obtain ⟨a, b, c⟩ := h.rng; exact ⟨a, b, var_on c hb⟩⟩

theorem bytesWorld_below (w : World) (e : TypeId) (s : ByteArray) : Below w.heap.size w (Lib.bytesWorld w e s) := by
  unfold Lib.bytesWorld
  refine ⟨rfl, rfl, rfl, ?_, fun j hj => ?_⟩
  · simp [World.freeze, World.alloc]
  · show ((World.freeze _ _ 1).heap)[j]? = _
    unfold World.freeze
    rw [if_neg (by decide)]
    rw [Array.getElem?_modify, if_neg (by simp; omega)]
    exact Below.heap_alloc w.drew _ j hj
/-- Atoi: a number, or no number -/
theorem atoi_ok (w : World) (s : ByteArray) (hs : s.size ≤ 1000) (v : Int) (h : Lib.atoiAll s.data.toList = .ok v) : Calls Tryd.prog 21 #[.string s] w fun e w' => e = .returned (.tuple #[.int .i64 v, .nilIface]) ∧ Below w.heap.size w w' := by
  refine (Any.strconv_Atoi_ok Tryd.atoiC s (by omega) v h w).mono ?_
  rintro e w' ⟨rfl, rfl | ⟨t, rfl⟩⟩
  · exact ⟨rfl, Below.refl _ _⟩
  · exact ⟨rfl, bytesWorld_below _ _ _⟩
def Bad (e : Ending) : Prop := ∃ v t p, e = .returned (.tuple #[.int .i64 v, .iface t p])
theorem atoi_bad (w : World) (s : ByteArray) (hs : s.size ≤ 1000) (h : ∀ v, Lib.atoiAll s.data.toList ≠ .ok v) (he : Env w) : Calls Tryd.prog 21 #[.string s] w fun e w' => Bad e ∧ Below w.heap.size w w' := by
  cases ha : Lib.atoiAll s.data.toList
  · exact absurd ha (h _)
  · obtain ⟨tp, p, hv⟩ := he.syn
    refine (Any.strconv_Atoi_syntax_var Tryd.atoiC s (by omega) ha tp p w hv).mono ?_
    rintro e w' ⟨N, rfl, _, _, hb⟩
    exact ⟨⟨_, _, _, rfl⟩, hb⟩
  · obtain ⟨tp, p, hv⟩ := he.rng
    refine (Any.strconv_Atoi_range_var Tryd.atoiC s (by omega) ha tp p w hv).mono ?_
    rintro e w' ⟨N, rfl, _, _, hb⟩
    exact ⟨⟨_, _, _, rfl⟩, hb⟩
theorem degree_Parse_short (w : World) (s : ByteArray) (h : s.size < 3) : Calls Tryd.prog 11 #[.string s] w fun e w' => e = .returned (.tuple #[.int .i64 0, .int .i64 2]) ∧ w = w' := by
  go_enter Tryd.func11, Tryd.ntmps11
  go_wp2
  go_ret2
  exact ⟨rfl, rfl⟩
theorem degree_Parse_nopoint (w : World) (s : ByteArray) (h : 3 ≤ s.size) (h2 : s.size ≤ 1000) (hp : s[s.size - 2]'(by omega) ≠ 46) : Calls Tryd.prog 11 #[.string s] w fun e w' => e = .returned (.tuple #[.int .i64 0, .int .i64 2]) ∧ w = w' := by
  have HP : Hid (¬ (3 ≤ (s.size : Int) ∧ (((s[s.size - 2]'(by omega)).toNat : Int) != 46) = false)) := by
    rintro ⟨_, h3⟩
    apply hp
    rw [bne_eq_false_iff_eq] at h3
    apply UInt8.toNat_inj.1
    show _ = 46
    omega
  clear hp
  go_enter Tryd.func11, Tryd.ntmps11
  go_wp2
  go_ret2
  exact ⟨rfl, rfl⟩
theorem degree_Parse_ok (w : World) (s : ByteArray) (h : 3 ≤ s.size) (h2 : s.size ≤ 1000) (hp : s[s.size - 2]'(by omega) = 46) (M : ByteArray) (hM : M = s.extract 0 (s.size - 2) ++ s.extract (s.size - 1) s.size) (t : Int) (ht : Lib.atoiAll M.data.toList = .ok t) (hx : s = ⟨(Txt t).toArray⟩) (he : Env w) :
    Calls Tryd.prog 11 #[.string s] w fun e w' => e = .returned (.tuple #[.int .i64 t, .int .i64 0]) ∧ Below w.heap.size w w' := by
  have HP : Hid (¬ ((s.size : Int) < 3 ∨ (((s[s.size - 2]'(by omega)).toNat : Int) != 46) = true)) := by
    rw [hp]
    rintro (h3 | h3)
    · omega
    · exact absurd h3 (by decide)
  have HT := Lib.hid ht
  have HS : M.size ≤ 1000 := by rw [hM]; simp only [ByteArray.size_append, ByteArray.size_extract]; omega
  have HX := Lib.hid hx
  have HE := Lib.hid he
  clear hp ht he hx
  go_enter Tryd.func11, Tryd.ntmps11
  go_wp2
  have e1 : IntKind.i64.wrap ((s.size : Int) - 2) = (s.size : Int) - 2 := by rw [IntWalk.i64_in _ (by omega)]
  have e2 : IntKind.i64.wrap ((s.size : Int) - 1) = (s.size : Int) - 1 := by rw [IntWalk.i64_in _ (by omega)]
  have e3 : (0 : Int) ≤ (s.size : Int) - 2 := by omega
  have e4 : (0 : Int) ≤ (s.size : Int) - 1 := by omega
  have e5 : ((s.size : Int) - 2).toNat = s.size - 2 := by omega
  have e6 : ((s.size : Int) - 1).toNat = s.size - 1 := by omega
  have e7 : (s.size : Int) - 2 ≤ s.size := by omega
  have e8 : (s.size : Int) - 1 ≤ s.size := by omega
  have e9 : (1 : Int) ≤ s.size := by omega
  have e10 : ∀ w, (Op.stringOp .add (s.extract 0 (s.size - 2)) (s.extract (s.size - 1) s.size)).run Tryd.prog w = .ok (.string M) w := fun w => by rw [hM]; refine run_string_add_sum _ _ _ ?_; rw [ByteArray.size_extract, ByteArray.size_extract]; omega
  have HM := Lib.hid hM
  clear hM
  go_region_held3 (fun w' => True) ((first | exact trivial)) ((first | (go_at_call 21; refine (atoi_ok _ _ HS t HT.out).mono ?_; rintro e w1 ⟨rfl, hk⟩)))
  clear e1 e2 e3 e4 e5 e6 e7 e8 e9 e10
  have hk0 : Below w.heap.size w w1 := (Below.refl _ w).drew.trans hk
  have he1 : Env w1 := HE.out.on hk0
  have HE1 := Lib.hid he1
  clear he1
  go_wp2_with (go_at_call 13; refine (degree_Text _ t HE1.out.pow).mono ?_; rw [← HX.out]; rintro e w2 ⟨rfl, hk2⟩)
  go_ret2
  exact ⟨rfl, hk0.trans (hk2.mono hk0.size)⟩
theorem degree_Parse_noint (w : World) (s : ByteArray) (h : 3 ≤ s.size) (h2 : s.size ≤ 1000) (hp : s[s.size - 2]'(by omega) = 46) (M : ByteArray) (hM : M = s.extract 0 (s.size - 2) ++ s.extract (s.size - 1) s.size) (ht : ∀ v, Lib.atoiAll M.data.toList ≠ .ok v) (he : Env w) :
    Calls Tryd.prog 11 #[.string s] w fun e w' => e = .returned (.tuple #[.int .i64 0, .int .i64 2]) ∧ Below w.heap.size w w' := by
  have HP : Hid (¬ ((s.size : Int) < 3 ∨ (((s[s.size - 2]'(by omega)).toNat : Int) != 46) = true)) := by
    rw [hp]
    rintro (h3 | h3)
    · omega
    · exact absurd h3 (by decide)
  have HT := Lib.hid ht
  have HS : M.size ≤ 1000 := by rw [hM]; simp only [ByteArray.size_append, ByteArray.size_extract]; omega
  have HE := Lib.hid he
  clear hp ht he
  go_enter Tryd.func11, Tryd.ntmps11
  go_wp2
  have e1 : IntKind.i64.wrap ((s.size : Int) - 2) = (s.size : Int) - 2 := by rw [IntWalk.i64_in _ (by omega)]
  have e2 : IntKind.i64.wrap ((s.size : Int) - 1) = (s.size : Int) - 1 := by rw [IntWalk.i64_in _ (by omega)]
  have e3 : (0 : Int) ≤ (s.size : Int) - 2 := by omega
  have e4 : (0 : Int) ≤ (s.size : Int) - 1 := by omega
  have e5 : ((s.size : Int) - 2).toNat = s.size - 2 := by omega
  have e6 : ((s.size : Int) - 1).toNat = s.size - 1 := by omega
  have e7 : (s.size : Int) - 2 ≤ s.size := by omega
  have e8 : (s.size : Int) - 1 ≤ s.size := by omega
  have e9 : (1 : Int) ≤ s.size := by omega
  have e10 : ∀ w, (Op.stringOp .add (s.extract 0 (s.size - 2)) (s.extract (s.size - 1) s.size)).run Tryd.prog w = .ok (.string M) w := fun w => by rw [hM]; refine run_string_add_sum _ _ _ ?_; rw [ByteArray.size_extract, ByteArray.size_extract]; omega
  have HM := Lib.hid hM
  clear hM
  go_region_held3 (fun w' => True) ((first | exact trivial)) ((first | (go_at_call 21; refine (atoi_bad _ _ HS HT.out (HE.out.on ((Below.refl _ w).drew))).mono ?_; rintro e w1 ⟨⟨v, tp, p, rfl⟩, hk⟩)))
  clear e1 e2 e3 e4 e5 e6 e7 e8 e9 e10
  have hk0 : Below w.heap.size w w1 := (Below.refl _ w).drew.trans hk
  go_wp2
  go_ret2
  exact ⟨rfl, hk0⟩
theorem degree_Parse_other (w : World) (s : ByteArray) (h : 3 ≤ s.size) (h2 : s.size ≤ 1000) (hp : s[s.size - 2]'(by omega) = 46) (M : ByteArray) (hM : M = s.extract 0 (s.size - 2) ++ s.extract (s.size - 1) s.size) (t : Int) (ht : Lib.atoiAll M.data.toList = .ok t) (X : ByteArray) (hx : X = ⟨(Txt t).toArray⟩) (hne : (X.toList == s.toList) = false) (he : Env w) :
    Calls Tryd.prog 11 #[.string s] w fun e w' => e = .returned (.tuple #[.int .i64 0, .int .i64 2]) ∧ Below w.heap.size w w' := by
  have HP : Hid (¬ ((s.size : Int) < 3 ∨ (((s[s.size - 2]'(by omega)).toNat : Int) != 46) = true)) := by
    rw [hp]
    rintro (h3 | h3)
    · omega
    · exact absurd h3 (by decide)
  have HT := Lib.hid ht
  have HS : M.size ≤ 1000 := by rw [hM]; simp only [ByteArray.size_append, ByteArray.size_extract]; omega
  have HX := Lib.hid hx
  have HN := Lib.hid hne
  have HE := Lib.hid he
  clear hp ht he hx hne
  go_enter Tryd.func11, Tryd.ntmps11
  go_wp2
  have e1 : IntKind.i64.wrap ((s.size : Int) - 2) = (s.size : Int) - 2 := by rw [IntWalk.i64_in _ (by omega)]
  have e2 : IntKind.i64.wrap ((s.size : Int) - 1) = (s.size : Int) - 1 := by rw [IntWalk.i64_in _ (by omega)]
  have e3 : (0 : Int) ≤ (s.size : Int) - 2 := by omega
  have e4 : (0 : Int) ≤ (s.size : Int) - 1 := by omega
  have e5 : ((s.size : Int) - 2).toNat = s.size - 2 := by omega
  have e6 : ((s.size : Int) - 1).toNat = s.size - 1 := by omega
  have e7 : (s.size : Int) - 2 ≤ s.size := by omega
  have e8 : (s.size : Int) - 1 ≤ s.size := by omega
  have e9 : (1 : Int) ≤ s.size := by omega
  have e10 : ∀ w, (Op.stringOp .add (s.extract 0 (s.size - 2)) (s.extract (s.size - 1) s.size)).run Tryd.prog w = .ok (.string M) w := fun w => by rw [hM]; refine run_string_add_sum _ _ _ ?_; rw [ByteArray.size_extract, ByteArray.size_extract]; omega
  have HM := Lib.hid hM
  clear hM
  go_region_held3 (fun w' => True) ((first | exact trivial)) ((first | (go_at_call 21; refine (atoi_ok _ _ HS t HT.out).mono ?_; rintro e w1 ⟨rfl, hk⟩)))
  clear e1 e2 e3 e4 e5 e6 e7 e8 e9 e10
  have hk0 : Below w.heap.size w w1 := (Below.refl _ w).drew.trans hk
  have he1 : Env w1 := HE.out.on hk0
  have HE1 := Lib.hid he1
  clear he1
  have hne := HN.out
  go_wp2_with (go_at_call 13; refine (degree_Text _ t HE1.out.pow).mono ?_; rw [← HX.out]; rintro e w2 ⟨rfl, hk2⟩)
  go_ret2
  exact ⟨rfl, hk0.trans (hk2.mono hk0.size)⟩

/-- the tenth of a text -/
def parseP (L : List UInt8) : Option Int :=
  if L.length < 3 then none
  else if L[L.length - 2]? ≠ some 46 then none
  else match Lib.atoiAll (L.take (L.length - 2) ++ L.drop (L.length - 1)) with
    | .ok t => if Txt t = L then some t else none
    | _ => none
def retP (o : Option Int) : Value := .tuple #[.int .i64 (o.getD 0), .int .i64 (if o.isSome then 0 else 2)]
theorem ba_get (s : ByteArray) (i : Nat) (h : i < s.size) : s.data.toList[i]? = some (s[i]'h) := by
  rw [Array.getElem?_toList, Array.getElem?_eq_getElem (by simpa using h)]; rfl
theorem degree_Parse (w : World) (s : ByteArray) (h2 : s.size ≤ 1000) (he : Env w) :
    Calls Tryd.prog 11 #[.string s] w fun e w' => e = .returned (retP (parseP s.data.toList)) ∧ Below w.heap.size w w' := by
  have hl : s.data.toList.length = s.size := by rw [Array.length_toList]; rfl
  unfold parseP
  rw [hl]
  by_cases h : s.size < 3
  · rw [if_pos h]
    refine (degree_Parse_short w s h).mono ?_
    rintro e w' ⟨rfl, rfl⟩
    exact ⟨rfl, Below.refl _ _⟩
  rw [if_neg h, ba_get s _ (by omega)]
  by_cases hp : s[s.size - 2]'(by omega) = 46
  · rw [if_neg (by rw [hp]; simp)]
    have hM : (s.extract 0 (s.size - 2) ++ s.extract (s.size - 1) s.size).data.toList = s.data.toList.take (s.size - 2) ++ s.data.toList.drop (s.size - 1) := by
      rw [ByteArray.data_append, Array.toList_append, Lib.Pa.extract_upto_list, Lib.extract_to_end]
    rw [← hM]
    by_cases hv : ∃ t, Lib.atoiAll (s.extract 0 (s.size - 2) ++ s.extract (s.size - 1) s.size).data.toList = .ok t
    · obtain ⟨t, ht⟩ := hv
      rw [ht]
      by_cases hx : Txt t = s.data.toList
      · have : s = ⟨(Txt t).toArray⟩ := by rw [hx]
        simp only [if_pos hx]
        exact degree_Parse_ok w s (by omega) h2 hp _ rfl t ht this he
      · simp only [if_neg hx]
        refine degree_Parse_other w s (by omega) h2 hp _ rfl t ht _ rfl ?_ he
        rw [beq_eq_false_iff_ne]
        intro h3
        rw [ByteArray.toList_eq, ByteArray.toList_eq] at h3
        exact hx h3
    · have hv' : ∀ v, Lib.atoiAll (s.extract 0 (s.size - 2) ++ s.extract (s.size - 1) s.size).data.toList ≠ .ok v := fun v h => hv ⟨v, h⟩
      have hx := degree_Parse_noint w s (by omega) h2 hp _ rfl hv' he
      generalize Lib.atoiAll (s.extract 0 (s.size - 2) ++ s.extract (s.size - 1) s.size).data.toList = z at *
      cases z
      · exact absurd rfl (hv' _)
      · exact hx
      · exact hx
  · rw [if_pos (by simpa using hp)]
    refine (degree_Parse_nopoint w s (by omega) h2 hp).mono ?_
    rintro e w' ⟨rfl, rfl⟩
    exact ⟨rfl, Below.refl _ _⟩
end Go.Proofs.YtlnlbnpabaddkaaDoor
