/-
  Plain mathematics: products of phasors of 64ths, reckoned out: part 1. Conditions: none.
-/
import Derived.Test.YtbphigmpcjodkaaR24
set_option linter.unusedVariables false
set_option linter.unusedSimpArgs false
namespace Go.Proofs.Ytbphigmpcjodkaa
open Go Go.RowKit Flo Val Fb Ff
set_option maxRecDepth 100000
theorem ml0 : ((List.range 64).all fun j => mlJ 0 j) = true := by kernel_rfl
theorem ml1 : ((List.range 64).all fun j => mlJ 1 j) = true := by kernel_rfl
theorem ml2 : ((List.range 64).all fun j => mlJ 2 j) = true := by kernel_rfl
theorem ml3 : ((List.range 64).all fun j => mlJ 3 j) = true := by kernel_rfl
theorem ml4 : ((List.range 64).all fun j => mlJ 4 j) = true := by kernel_rfl
theorem ml5 : ((List.range 64).all fun j => mlJ 5 j) = true := by kernel_rfl
theorem ml6 : ((List.range 64).all fun j => mlJ 6 j) = true := by kernel_rfl
theorem ml7 : ((List.range 64).all fun j => mlJ 7 j) = true := by kernel_rfl
theorem ml8 : ((List.range 64).all fun j => mlJ 8 j) = true := by kernel_rfl
theorem ml9 : ((List.range 64).all fun j => mlJ 9 j) = true := by kernel_rfl
theorem ml10 : ((List.range 64).all fun j => mlJ 10 j) = true := by kernel_rfl
theorem ml11 : ((List.range 64).all fun j => mlJ 11 j) = true := by kernel_rfl
theorem ml12 : ((List.range 64).all fun j => mlJ 12 j) = true := by kernel_rfl
theorem ml13 : ((List.range 64).all fun j => mlJ 13 j) = true := by kernel_rfl
theorem ml14 : ((List.range 64).all fun j => mlJ 14 j) = true := by kernel_rfl
theorem ml15 : ((List.range 64).all fun j => mlJ 15 j) = true := by kernel_rfl
theorem ml16 : ((List.range 64).all fun j => mlJ 16 j) = true := by kernel_rfl
theorem ml17 : ((List.range 64).all fun j => mlJ 17 j) = true := by kernel_rfl
theorem ml18 : ((List.range 64).all fun j => mlJ 18 j) = true := by kernel_rfl
theorem ml19 : ((List.range 64).all fun j => mlJ 19 j) = true := by kernel_rfl
theorem ml20 : ((List.range 64).all fun j => mlJ 20 j) = true := by kernel_rfl
theorem ml21 : ((List.range 64).all fun j => mlJ 21 j) = true := by kernel_rfl
end Go.Proofs.Ytbphigmpcjodkaa
