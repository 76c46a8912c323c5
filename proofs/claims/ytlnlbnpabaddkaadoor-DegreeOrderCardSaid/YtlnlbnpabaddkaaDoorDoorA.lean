/-
  What the rows' cell 'laid' gives a walk; one world that fits.
-/
import Derived.Test.YtlnlbnpabaddkaaDoorTie
import Derived.Test.YtlnlbnpabaddkaaDoorCards
import Derived.Test.YtlnlbnpabaddkaaDoorTenJ
import Derived.SizedLaws
import Derived.ChangeSame
import Derived.ChangeVars
import Derived.ChangeMaps5
import Derived.JoinedOf
import Derived.JoinedAt
import Derived.RowKit
import Derived.RowKit3
import Derived.RowKitTokens
import Derived.LaidLaws
import Derived.Stop.LaidErr
import Derived.Lib.LaidTab
import Derived.SevenTiedAt
namespace Go.Proofs.YtlnlbnpabaddkaaDoor
open Go.ChangeShapes Go.WideShapes Go.ChangeAt Go.RowKit

theorem own : ownKnob Tryd.prog.godebug = none := by kernel_rfl
theorem gES : Tryd.prog.globalNamed "strconv.ErrSyntax" = some 1 := by kernel_rfl
theorem gER : Tryd.prog.globalNamed "strconv.ErrRange" = some 2 := by kernel_rfl
theorem gPow : Tryd.prog.globalNamed "internal/strconv.uint64pow10" = some 3 := by kernel_rfl
theorem gEST : (Tryd.prog.globals[1]?).map (·.type) = some 44 := by kernel_rfl
theorem gERT : (Tryd.prog.globals[2]?).map (·.type) = some 44 := by kernel_rfl
theorem gPowT : (Tryd.prog.globals[3]?).map (·.type) = some 81 := by kernel_rfl
theorem cells78 : Tryd.prog.cellsOf 78 = 1 := by kernel_rfl
theorem cells9 : Tryd.prog.cellsOf 9 = 1 := by kernel_rfl
theorem cells81 : Tryd.prog.cellsOf 81 = 20 := by kernel_rfl
theorem cells22 : Tryd.prog.cellsOf 22 = 1 := by kernel_rfl
theorem star : "*" ++ "errors.errorString" = "*errors.errorString" := by decide
theorem row76 (u : TypeId) (h : Tryd.prog.typeName? 3 u = some "*errors.errorString") : u = 76 :=
  typeName_ptr_named (nm := "errors.errorString") (by rw [star]; kernel_rfl) (by kernel_rfl) (by decide) u (by rw [star]; exact h)
def laidList : List (String × DataW Unit) := [("math/bits.deBruijn32tab", Rows.laid_math_bits_deBruijn32tab), ("math/bits.deBruijn64tab", Rows.laid_math_bits_deBruijn64tab), ("internal/strconv.uint64pow10", Rows.laid_internal_strconv_uint64pow10), ("strconv.ErrRange", Rows.laid_strconv_ErrRange), ("strconv.ErrSyntax", Rows.laid_strconv_ErrSyntax)]
theorem env_of_laid {w : World} (h : laidMet Tryd.prog laidList w) : Env w := by
  have h3 := h.tail.tail
  have h4 := h3.tail
  have h5 := h4.tail
  refine ⟨Lib.tabIs_of_head gPow gPowT Tryd.underlying81 Tryd.underlying22 cells22 cells81 (rest := [("strconv.ErrRange", Rows.laid_strconv_ErrRange), ("strconv.ErrSyntax", Rows.laid_strconv_ErrSyntax)]) h3, ?_, ?_⟩
  · obtain ⟨a, s, hv, -, -, -⟩ := laid_sentinel h5 gES gEST Tryd.underlying44 row76 Tryd.underlying76 Tryd.underlying78 rfl rfl Tryd.underlying9 cells78 cells9
    exact ⟨_, _, hv⟩
  · obtain ⟨a, s, hv, -, -, -⟩ := laid_sentinel h4 gER gERT Tryd.underlying44 row76 Tryd.underlying76 Tryd.underlying78 rfl rfl Tryd.underlying9 cells78 cells9
    exact ⟨_, _, hv⟩

abbrev synS : ByteArray := { data := #[105, 110, 118, 97, 108, 105, 100, 32, 115, 121, 110, 116, 97, 120] }
abbrev rngS : ByteArray := { data := #[118, 97, 108, 117, 101, 32, 111, 117, 116, 32, 111, 102, 32, 114, 97, 110, 103, 101] }
def b32 : List Nat := [0, 1, 28, 2, 29, 14, 24, 3, 30, 22, 20, 15, 25, 17, 4, 8, 31, 27, 13, 23, 21, 19, 16, 7, 26, 12, 18, 6, 11, 5, 10, 9]
def litInts : List (DataW Unit) → Array Value
  | [] => #[]
  | .lit (.int k z) :: r => #[.int k z] ++ litInts r
  | _ :: r => litInts r
def aggInts : DataW Unit → Array Value
  | .agg l => litInts l
  | _ => #[]
noncomputable def low : Nat := (World.holding Tryd.prog default ⟨#[], #[], []⟩).heap.size
/-- the settled world, its tables laid, with two blocks more -/
noncomputable def laidWorld (os : Os) : World :=
  let w0 := World.holding Tryd.prog os ⟨#[.cells #[.string synS] 78, .cells #[.string rngS] 78], #[], []⟩
  let put (h : Array Obj) (g : Nat) (cs : Array Value) : Array Obj := h.modify g fun
    | .cells _ t frozen => .cells cs t frozen
    | o => o
  let h1 := put w0.heap 1 #[.iface 76 (.pointer (some ⟨low, 0, none⟩))]
  let h2 := put h1 2 #[.iface 76 (.pointer (some ⟨low + 1, 0, none⟩))]
  let h3 := put h2 3 (aggInts Rows.laid_internal_strconv_uint64pow10)
  let h4 := put h3 4 (aggInts Rows.laid_math_bits_deBruijn32tab)
  let h5 := put h4 5 (aggInts Rows.laid_math_bits_deBruijn64tab)
  { w0 with heap := h5 }
theorem laidWorld_met (os : Os) (args : Array Value) : laidMet Tryd.prog laidList ((laidWorld os).forCall (fun _ _ => 0) ⟨#[], args, []⟩).memory :=
  laidMet_of_run' 8 (by kernel_rfl) (by kernel_rfl)
end Go.Proofs.YtlnlbnpabaddkaaDoor
