/-
  Plain mathematics: products of phasors of 64ths, reckoned out: part 2. Conditions: none.
-/
import Derived.Test.YtbphigmpcjodkaaR24
set_option linter.unusedVariables false
set_option linter.unusedSimpArgs false
namespace Go.Proofs.Ytbphigmpcjodkaa
open Go Go.RowKit Flo Val Fb Ff
set_option maxRecDepth 100000
theorem ml22 : ((List.range 64).all fun j => mlJ 22 j) = true := by kernel_rfl
theorem ml23 : ((List.range 64).all fun j => mlJ 23 j) = true := by kernel_rfl
theorem ml24 : ((List.range 64).all fun j => mlJ 24 j) = true := by kernel_rfl
theorem ml25 : ((List.range 64).all fun j => mlJ 25 j) = true := by kernel_rfl
theorem ml26 : ((List.range 64).all fun j => mlJ 26 j) = true := by kernel_rfl
theorem ml27 : ((List.range 64).all fun j => mlJ 27 j) = true := by kernel_rfl
theorem ml28 : ((List.range 64).all fun j => mlJ 28 j) = true := by kernel_rfl
theorem ml29 : ((List.range 64).all fun j => mlJ 29 j) = true := by kernel_rfl
theorem ml30 : ((List.range 64).all fun j => mlJ 30 j) = true := by kernel_rfl
theorem ml31 : ((List.range 64).all fun j => mlJ 31 j) = true := by kernel_rfl
theorem ml32 : ((List.range 64).all fun j => mlJ 32 j) = true := by kernel_rfl
theorem ml33 : ((List.range 64).all fun j => mlJ 33 j) = true := by kernel_rfl
theorem ml34 : ((List.range 64).all fun j => mlJ 34 j) = true := by kernel_rfl
theorem ml35 : ((List.range 64).all fun j => mlJ 35 j) = true := by kernel_rfl
theorem ml36 : ((List.range 64).all fun j => mlJ 36 j) = true := by kernel_rfl
theorem ml37 : ((List.range 64).all fun j => mlJ 37 j) = true := by kernel_rfl
theorem ml38 : ((List.range 64).all fun j => mlJ 38 j) = true := by kernel_rfl
theorem ml39 : ((List.range 64).all fun j => mlJ 39 j) = true := by kernel_rfl
theorem ml40 : ((List.range 64).all fun j => mlJ 40 j) = true := by kernel_rfl
theorem ml41 : ((List.range 64).all fun j => mlJ 41 j) = true := by kernel_rfl
theorem ml42 : ((List.range 64).all fun j => mlJ 42 j) = true := by kernel_rfl
end Go.Proofs.Ytbphigmpcjodkaa
