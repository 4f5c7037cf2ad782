/-
  Plain mathematics: tenths of decibels of 64ths, reckoned out: part Fi. Conditions: none.
-/
import Derived.Test.YtbphigmpcjodkaaFh
set_option linter.unusedVariables false
namespace Ff
set_option maxRecDepth 100000
theorem tq1 : ((List.range 250).all fun i => chkQ (Nat.add 1 i)) = true := by kernel_rfl
theorem tq251 : ((List.range 250).all fun i => chkQ (Nat.add 251 i)) = true := by kernel_rfl
theorem tq501 : ((List.range 250).all fun i => chkQ (Nat.add 501 i)) = true := by kernel_rfl
theorem tq751 : ((List.range 250).all fun i => chkQ (Nat.add 751 i)) = true := by kernel_rfl
theorem tq1001 : ((List.range 250).all fun i => chkQ (Nat.add 1001 i)) = true := by kernel_rfl
theorem tq1251 : ((List.range 250).all fun i => chkQ (Nat.add 1251 i)) = true := by kernel_rfl
theorem tq1501 : ((List.range 250).all fun i => chkQ (Nat.add 1501 i)) = true := by kernel_rfl
theorem tq1751 : ((List.range 250).all fun i => chkQ (Nat.add 1751 i)) = true := by kernel_rfl
end Ff
