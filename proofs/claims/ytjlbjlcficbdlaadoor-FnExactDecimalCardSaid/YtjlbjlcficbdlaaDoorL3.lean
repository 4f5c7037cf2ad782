/-
  The law Decimal under the row's condition. Conditions: the row's listed variables lie as the row says.
-/
import Derived.Test.YtjlbjlcficbdlaaDoorWit
namespace Go.Proofs.YtjlbjlcficbdlaaDoor
open Go Go.RowKit

theorem decimal_law (n : Int) (w : World) (hw : (Lit.int .i64 n).wf = true) (hL : laidMet Tryd.prog Rows.fnExactDecimalRow.laid w) :
    Calls Tryd.prog 3 #[.int .i64 n] w fun e w' => e = .returned (.bool true) ∧ Below w.heap.size w w' :=
  decimal_walk n w hw (pow_of_laid hL)

end Go.Proofs.YtjlbjlcficbdlaaDoor
