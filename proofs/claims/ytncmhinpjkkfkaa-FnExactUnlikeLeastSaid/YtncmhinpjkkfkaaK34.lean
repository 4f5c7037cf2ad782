/-
  Walks: the law PieceEnds: two rows made at once. Conditions: none.
-/
import Derived.Test.YtncmhinpjkkfkaaK28
import Derived.Laws.MakeOwn
set_option linter.unusedVariables false
set_option linter.unusedSimpArgs false
namespace Go.Proofs.Ytncmhinpjkkfkaa
open Go Go.RowKit

theorem mk_run (W : World) (n : Nat) (h : n ≤ 24) : (Instr.makeSlice 22 (.int .i64 (n : Int)) (.int .i64 (n : Int))).run Try.prog W = .ok (.slice (some ⟨W.heap.size, 0, none⟩) n n) (W.alloc (.cells (madeCells #[.int .i64 0] n) 2)) := by
  obtain ⟨i, hi, hz, h1, h2⟩ := info_parts Try.info2
  have := run_make (P := Try.prog) W 22 2 i (.int .i64 0) Try.underlying22 hi hz .i64 .i64 n n (by omega) (by omega) (by rw [h2]; omega) (by omega)
  rw [h1, show (Value.int .i64 0).cells = #[Value.int .i64 0] from rfl] at this
  simpa using this

theorem rw_made (W : World) (n : Nat) (h : n ≤ 24) : Rw (W.alloc (.cells (madeCells #[.int .i64 0] n) 2)) W.heap.size n (List.replicate n 0) := by
  refine rw_zero ⟨madeCells #[.int .i64 0] n, heap_alloc_new W _, by rw [size_madeCells], by simp, by unfold maxLen; omega, ?_⟩
  rw [toList_madeCells_one]; simp
theorem two_made {w : World} (wr : World) (n : Nat) (h : n ≤ 24) {G cap : Nat} {tm : List Int} (ho : Rw wr G cap tm) (hb : Below w.heap.size w wr) :
    Rw ((wr.alloc (.cells (madeCells #[.int .i64 0] n) 2)).alloc (.cells (madeCells #[.int .i64 0] n) 2)).drew G cap tm ∧
    Rw ((wr.alloc (.cells (madeCells #[.int .i64 0] n) 2)).alloc (.cells (madeCells #[.int .i64 0] n) 2)).drew wr.heap.size n (List.replicate n 0) ∧
    Rw ((wr.alloc (.cells (madeCells #[.int .i64 0] n) 2)).alloc (.cells (madeCells #[.int .i64 0] n) 2)).drew (wr.heap.size + 1) n (List.replicate n 0) ∧
    Below w.heap.size w ((wr.alloc (.cells (madeCells #[.int .i64 0] n) 2)).alloc (.cells (madeCells #[.int .i64 0] n) 2)).drew := by
  have h1 := rw_made wr n h
  have h2 := rw_made (wr.alloc (.cells (madeCells #[.int .i64 0] n) 2)) n h
  have hs : (wr.alloc (.cells (madeCells #[.int .i64 0] n) 2)).heap.size = wr.heap.size + 1 := by simp
  rw [hs] at h2
  exact ⟨((ho.alloc _).alloc _).dr (.one _ _), (h1.alloc _).dr (.one _ _), h2.dr (.one _ _), (below_alloc (below_alloc hb _) _).drew⟩
end Go.Proofs.Ytncmhinpjkkfkaa
