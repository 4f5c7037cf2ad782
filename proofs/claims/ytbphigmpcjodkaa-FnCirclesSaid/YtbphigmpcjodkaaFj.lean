/-
  Plain mathematics: tenths of decibels of 64ths, reckoned out: part Fj. Conditions: none.
-/
import Derived.Test.YtbphigmpcjodkaaFh
set_option linter.unusedVariables false
namespace Ff
set_option maxRecDepth 100000
theorem tq2001 : ((List.range 500).all fun i => chkQ (Nat.add 2001 i)) = true := by kernel_rfl
theorem tq2501 : ((List.range 500).all fun i => chkQ (Nat.add 2501 i)) = true := by kernel_rfl
theorem tq3001 : ((List.range 500).all fun i => chkQ (Nat.add 3001 i)) = true := by kernel_rfl
theorem tq3501 : ((List.range 500).all fun i => chkQ (Nat.add 3501 i)) = true := by kernel_rfl
theorem tq4001 : ((List.range 500).all fun i => chkQ (Nat.add 4001 i)) = true := by kernel_rfl
theorem tq4501 : ((List.range 500).all fun i => chkQ (Nat.add 4501 i)) = true := by kernel_rfl
theorem tq5001 : ((List.range 500).all fun i => chkQ (Nat.add 5001 i)) = true := by kernel_rfl
theorem tq5501 : ((List.range 500).all fun i => chkQ (Nat.add 5501 i)) = true := by kernel_rfl
end Ff
