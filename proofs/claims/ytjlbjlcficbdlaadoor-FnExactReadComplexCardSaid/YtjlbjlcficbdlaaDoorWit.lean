/-
  A world that meets the laws' conditions: the heap that the program's own door leaves; what the condition gives a walk. Conditions: none.
-/
import Derived.Test.YtjlbjlcficbdlaaDoorRows
import Derived.Test.YtjlbjlcficbdlaaDoorD3
import Derived.LaidMore
import Derived.LaidHandle
import Derived.MakeChecks
import Derived.LaidLaws
import Derived.Lib.LaidTab
import Derived.Stop.LaidErr
set_option linter.unusedVariables false
namespace Go.Proofs.YtjlbjlcficbdlaaDoor
open Go Go.RowKit

noncomputable def wit (os : Os) : World := World.doorLaid Tryd.prog 72 os
theorem wit_shaped (os : Os) (args : Array Value) : ((wit os).forCall (fun _ _ => 0) ⟨#[], args, []⟩).Shaped Tryd.prog := World.shaped_of_RefB (by kernel_rfl) (by kernel_rfl)

theorem gPow : Tryd.prog.globalNamed "internal/strconv.uint64pow10" = some 1 := by kernel_rfl
theorem gPowType : (Tryd.prog.globals[1]?).map (·.type) = some 110 := by kernel_rfl
theorem uPow : Tryd.prog.underlying 110 = some (.array 20 77) := by kernel_rfl
theorem u77 : Tryd.prog.underlying 77 = some (.int .u64) := by kernel_rfl

theorem pow_of_laid {W : World} {a b : String × DataW Unit} {r : List (String × DataW Unit)} (h : laidMet Tryd.prog (a :: b :: ("internal/strconv.uint64pow10", Rows.laid_internal_strconv_uint64pow10) :: r) W) : Pow W :=
  Lib.tabIs_of_head gPow gPowType uPow u77 (by kernel_rfl) (by kernel_rfl) h.tail.tail

end Go.Proofs.YtjlbjlcficbdlaaDoor
