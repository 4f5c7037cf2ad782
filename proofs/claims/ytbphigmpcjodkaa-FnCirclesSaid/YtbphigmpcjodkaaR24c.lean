/-
  Plain mathematics: products of phasors of 64ths, reckoned out: part 3. Conditions: none.
-/
import Derived.Test.YtbphigmpcjodkaaR24
set_option linter.unusedVariables false
set_option linter.unusedSimpArgs false
namespace Go.Proofs.Ytbphigmpcjodkaa
open Go Go.RowKit Flo Val Fb Ff
set_option maxRecDepth 100000
theorem ml43 : ((List.range 64).all fun j => mlJ 43 j) = true := by kernel_rfl
theorem ml44 : ((List.range 64).all fun j => mlJ 44 j) = true := by kernel_rfl
theorem ml45 : ((List.range 64).all fun j => mlJ 45 j) = true := by kernel_rfl
theorem ml46 : ((List.range 64).all fun j => mlJ 46 j) = true := by kernel_rfl
theorem ml47 : ((List.range 64).all fun j => mlJ 47 j) = true := by kernel_rfl
theorem ml48 : ((List.range 64).all fun j => mlJ 48 j) = true := by kernel_rfl
theorem ml49 : ((List.range 64).all fun j => mlJ 49 j) = true := by kernel_rfl
theorem ml50 : ((List.range 64).all fun j => mlJ 50 j) = true := by kernel_rfl
theorem ml51 : ((List.range 64).all fun j => mlJ 51 j) = true := by kernel_rfl
theorem ml52 : ((List.range 64).all fun j => mlJ 52 j) = true := by kernel_rfl
theorem ml53 : ((List.range 64).all fun j => mlJ 53 j) = true := by kernel_rfl
theorem ml54 : ((List.range 64).all fun j => mlJ 54 j) = true := by kernel_rfl
theorem ml55 : ((List.range 64).all fun j => mlJ 55 j) = true := by kernel_rfl
theorem ml56 : ((List.range 64).all fun j => mlJ 56 j) = true := by kernel_rfl
theorem ml57 : ((List.range 64).all fun j => mlJ 57 j) = true := by kernel_rfl
theorem ml58 : ((List.range 64).all fun j => mlJ 58 j) = true := by kernel_rfl
theorem ml59 : ((List.range 64).all fun j => mlJ 59 j) = true := by kernel_rfl
theorem ml60 : ((List.range 64).all fun j => mlJ 60 j) = true := by kernel_rfl
theorem ml61 : ((List.range 64).all fun j => mlJ 61 j) = true := by kernel_rfl
theorem ml62 : ((List.range 64).all fun j => mlJ 62 j) = true := by kernel_rfl
theorem ml63 : ((List.range 64).all fun j => mlJ 63 j) = true := by kernel_rfl
end Go.Proofs.Ytbphigmpcjodkaa
