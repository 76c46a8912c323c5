/-
  The law's live question: its walk.
-/
import Derived.Test.YtlnlbnpabaddkaaDoorTenI
namespace Go.Proofs.YtlnlbnpabaddkaaDoor
open Go.RowKit Ieee

theorem Below.next {W w w' : World} (h : Below W.heap.size W w) (k : Below w.heap.size w w') : Below W.heap.size W w' := h.trans (k.mono h.size)
theorem of_at (w : World) (b : Nat) (hb : b < 2 ^ 64) (v : Int) (h : ofV b = some v) : Calls Tryd.prog 7 #[.int .u64 b] w fun e w' => e = .returned (.tuple #[.int .i64 v, .int .i64 0]) ∧ Below w.heap.size w w' := by
  have := degree_Of w b hb
  rw [h] at this; exact this
theorem of_nan (w : World) (b : Nat) (hb : b < 2 ^ 64) (h : ofV b = none) : Calls Tryd.prog 7 #[.int .u64 b] w fun e w' => e = .returned (.tuple #[.int .i64 0, .int .i64 2]) ∧ Below w.heap.size w w' := by
  have := degree_Of w b hb
  rw [h] at this; exact this
theorem ten_at (w : World) (b : Nat) (hb : b < 2 ^ 64) (v : Int) (h : ofV b = some v) : Calls Tryd.prog 10 #[.float .f64 b] w fun e w' => e = .returned (.tuple #[.int .i64 v, .int .i64 0]) ∧ Below w.heap.size w w' := by
  have := degree_Tenths_word w b hb
  rw [h] at this; exact this
theorem parse_at (w : World) (s : ByteArray) (h2 : s.size ≤ 1000) (he : Env w) (v : Int) (h : parseP s.data.toList = some v) : Calls Tryd.prog 11 #[.string s] w fun e w' => e = .returned (.tuple #[.int .i64 v, .int .i64 0]) ∧ Below w.heap.size w w' := by
  have := degree_Parse w s h2 he
  rw [h] at this; exact this
theorem parse_none (w : World) (s : ByteArray) (h2 : s.size ≤ 1000) (he : Env w) (h : parseP s.data.toList = none) : Calls Tryd.prog 11 #[.string s] w fun e w' => e = .returned (.tuple #[.int .i64 0, .int .i64 2]) ∧ Below w.heap.size w w' := by
  have := degree_Parse w s h2 he
  rw [h] at this; exact this
theorem o1 : ofV 4617540697942969549 = some 52 := by decide +kernel
theorem o2 : ofV 9223372036854775808 = some 0 := by decide +kernel
theorem o3 : ofV 9218868437227405312 = some 1099511627776 := by decide +kernel
theorem o4 : ofV 18442240474082181120 = some (-1099511627776) := by decide +kernel
theorem o5 : ofV 9221120237041090561 = none := by decide +kernel
theorem o6 : ofV 4576918229304087675 = some 1 := by decide +kernel
theorem o7 : ofV 13800290266158863483 = some 0 := by decide +kernel
theorem p1 : parseP [45, 49, 50, 46, 53] = some (-125) := by decide +kernel
theorem p2 : parseP [48, 49, 50, 46, 53] = none := by decide +kernel
theorem t5 : Txt (-5) = [45, 48, 46, 53] := by decide +kernel
theorem text_at (w : World) (he : Env w) : Calls Tryd.prog 13 #[.int .i64 (-5)] w fun e w' => e = .returned (.string ⟨#[45, 48, 46, 53]⟩) ∧ Below w.heap.size w w' := by
  have := degree_Text w (-5) he.pow
  rw [t5] at this; exact this

set_option maxRecDepth 100000 in
set_option maxHeartbeats 2000000 in
theorem law01_alive (w : World) (he : Env w) : Calls Tryd.prog 9 #[] w fun e w' => e = .returned (.bool true) ∧ Below w.heap.size w w' := by
  have HE := Lib.hid he
  clear he
  have k0 := Below.refl w.heap.size w
  go_enter Tryd.func9, Tryd.ntmps9
  go_wp2_with fail
  refine (of_at _ 4617540697942969549 (by decide) _ o1).mono ?_; rintro e w1 ⟨rfl, k⟩
  have k1 := Below.next k0 k
  clear k k0
  go_wp2_with fail
  refine (of_at _ 9223372036854775808 (by decide) _ o2).mono ?_; rintro e w2 ⟨rfl, k⟩
  have k2 := Below.next k1 k
  clear k k1
  go_wp2_with fail
  refine (of_at _ 9218868437227405312 (by decide) _ o3).mono ?_; rintro e w3 ⟨rfl, k⟩
  have k3 := Below.next k2 k
  clear k k2
  go_wp2_with fail
  refine (of_at _ 18442240474082181120 (by decide) _ o4).mono ?_; rintro e w4 ⟨rfl, k⟩
  have k4 := Below.next k3 k
  clear k k3
  go_wp2_with fail
  refine (of_nan _ 9221120237041090561 (by decide) o5).mono ?_; rintro e w5 ⟨rfl, k⟩
  have k5 := Below.next k4 k
  clear k k4
  go_wp2_with fail
  refine (ten_at _ 4576918229304087675 (by decide) _ o6).mono ?_; rintro e w6 ⟨rfl, k⟩
  have k6 := Below.next k5 k
  clear k k5
  go_wp2_with fail
  refine (ten_at _ 13800290266158863483 (by decide) _ o7).mono ?_; rintro e w7 ⟨rfl, k⟩
  have k7 := Below.next k6 k
  clear k k6
  go_wp2_with fail
  refine (parse_at _ ⟨#[45, 49, 50, 46, 53]⟩ (by decide) (HE.out.on k7) _ p1).mono ?_; rintro e w8 ⟨rfl, k⟩
  have k8 := Below.next k7 k
  clear k k7
  go_wp2_with fail
  refine (parse_none _ ⟨#[48, 49, 50, 46, 53]⟩ (by decide) (HE.out.on k8) p2).mono ?_; rintro e w9 ⟨rfl, k⟩
  have k9 := Below.next k8 k
  clear k k8
  go_wp2_with fail
  refine (text_at _ (HE.out.on k9)).mono ?_; rintro e w10 ⟨rfl, k⟩
  have k10 := Below.next k9 k
  clear k k9
  go_wp2_with fail
  go_ret
  exact ⟨rfl, k10⟩
end Go.Proofs.YtlnlbnpabaddkaaDoor
