/-
  Plain mathematics: tenths of decibels of 64ths, reckoned out: part Fk. Conditions: none.
-/
import Derived.Test.YtbphigmpcjodkaaFh
set_option linter.unusedVariables false
namespace Ff
set_option maxRecDepth 100000
theorem tq6001 : ((List.range 1000).all fun i => chkQ (Nat.add 6001 i)) = true := by kernel_rfl
theorem tq7001 : ((List.range 1000).all fun i => chkQ (Nat.add 7001 i)) = true := by kernel_rfl
theorem tq8001 : ((List.range 1000).all fun i => chkQ (Nat.add 8001 i)) = true := by kernel_rfl
theorem tq9001 : ((List.range 1000).all fun i => chkQ (Nat.add 9001 i)) = true := by kernel_rfl
theorem tq10001 : ((List.range 1000).all fun i => chkQ (Nat.add 10001 i)) = true := by kernel_rfl
theorem tq11001 : ((List.range 1000).all fun i => chkQ (Nat.add 11001 i)) = true := by kernel_rfl
theorem tq12001 : ((List.range 1000).all fun i => chkQ (Nat.add 12001 i)) = true := by kernel_rfl
theorem tq13001 : ((List.range 1000).all fun i => chkQ (Nat.add 13001 i)) = true := by kernel_rfl
theorem tq14001 : ((List.range 1000).all fun i => chkQ (Nat.add 14001 i)) = true := by kernel_rfl
theorem tq15001 : ((List.range 1000).all fun i => chkQ (Nat.add 15001 i)) = true := by kernel_rfl
theorem tq16001 : ((List.range 1000).all fun i => chkQ (Nat.add 16001 i)) = true := by kernel_rfl
theorem tq17001 : ((List.range 1000).all fun i => chkQ (Nat.add 17001 i)) = true := by kernel_rfl
theorem tq18001 : ((List.range 1000).all fun i => chkQ (Nat.add 18001 i)) = true := by kernel_rfl
theorem tq19001 : ((List.range 1000).all fun i => chkQ (Nat.add 19001 i)) = true := by kernel_rfl
end Ff
