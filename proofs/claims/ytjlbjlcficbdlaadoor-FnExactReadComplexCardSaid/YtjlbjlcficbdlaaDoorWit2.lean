/-
  A world that meets the laws' conditions, the table of UTF-8's first bytes among them. Conditions: none.
-/
import Derived.Test.YtjlbjlcficbdlaaDoorWit
import GoSem.PinnedTables
set_option linter.unusedVariables false
namespace Go.Proofs.YtjlbjlcficbdlaaDoor
open Go Go.RowKit

noncomputable def wit2 (os : Os) : World :=
  { wit os with heap := (wit os).heap.modify 7 fun
    | .cells _ t frozen => .cells (Pinned.utf8FirstZ.map fun (z : Nat) => Value.int .u8 z).toArray t frozen
    | o => o }
theorem wit2_shaped (os : Os) (args : Array Value) : ((wit2 os).forCall (fun _ _ => 0) ⟨#[], args, []⟩).Shaped Tryd.prog := World.shaped_of_RefB (by kernel_rfl) (by kernel_rfl)

end Go.Proofs.YtjlbjlcficbdlaaDoor
