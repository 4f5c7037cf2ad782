/-
  Walks: orders of numbers; the law IsOrder. Conditions: none.
-/
import Derived.Test.YtncmhinpjkkfkaaJ2
set_option linter.unusedVariables false
set_option linter.unusedSimpArgs false
namespace Go.Proofs.Ytncmhinpjkkfkaa
open Go Go.RowKit

/-- Which numbers stand among the first k. -/
def marks (xs : List Int) (n k : Nat) : List Value := (List.range n).map fun (i : Nat) => Value.bool (hasB (xs.take k) (i : Int))

theorem marks_zero (xs : List Int) (n : Nat) : marks xs n 0 = List.replicate n (.bool false) := by
  refine List.ext_getElem (by simp [marks]) fun i h1 h2 => ?_
  simp [marks, hasB]
theorem marks_len (xs : List Int) (n k : Nat) : (marks xs n k).length = n := by simp [marks]
theorem marks_set (xs : List Int) (n k : Nat) (hk : k < xs.length) (h0 : 0 ≤ xs[k]) : (marks xs n k).set xs[k].toNat (.bool true) = marks xs n (k + 1) := by
  refine List.ext_getElem (by simp [marks]) fun i h1 h2 => ?_
  rw [List.getElem_set]
  simp only [marks, List.getElem_map, List.getElem_range, hasB_snoc xs k _ hk]
  by_cases he : xs[k].toNat = i
  · rw [if_pos he, show xs[k] = (i : Int) by omega]; simp
  · rw [if_neg he, show (xs[k] == (i : Int)) = false by simp; omega]; simp

theorem Try.info4 : (Try.prog.info? 4).map (fun i => (i.zero, i.size, i.bytes)) = some (some (.bool false), 1, 1) := by kernel_rfl

theorem inB_lo {n lo hi : Int} (h : inB n lo hi = true) : lo ≤ n ∧ n ≤ hi := by simpa [inB] using h

set_option maxHeartbeats 1000000 in
theorem isAll_any (a : Option Addr) (n c : Nat) (xs : List Int) (w : World) (hn : xs.length = n) (hm : n ≤ 1048576) (hc : At w a xs) :
    Calls Try.prog 72 #[.slice a n c] w fun e w' => e = .returned (.bool (ordB xs n n)) ∧ Below w.heap.size w w' := by
  have HN := Lib.hid hn
  by_cases h0 : n = 0
  · subst h0
    clear hn hc
    go_enter Try.func72, Try.ntmps72
    go_wp2_with (at_make; refine wp_make rfl (.tmp 7) 100 rfl 4 (.bool false) 1 Try.underlying100 Try.info4 rfl 0 .i64 _ rfl rfl (by omega) (by decide) ?_; intro w1 hrow hbel)
    refine wp_loop_rounds 1 ?_; rw [rounds_succ]
    go_wp2
    go_ret
    exact ⟨ret_bool (by simp [ordB]), hbel⟩
  rcases hc with rfl | ⟨g, o, rfl, hc⟩
  · simp at hn; omega
  have HC := Lib.hid hc
  clear hc hn
  go_enter Try.func72, Try.ntmps72
  go_wp2_with (at_make; refine wp_make rfl (.tmp 7) 100 rfl 4 (.bool false) 1 Try.underlying100 Try.info4 rfl n .i64 _ rfl rfl (by omega) (by unfold maxLen; omega) ?_; intro w1 hrow hbel)
  rw [← marks_zero xs] at hrow
  go_loopw [5, 11] (fun _ i wr => ∃ k : Nat, k ≤ n ∧ i = .int .i64 k ∧ ordB xs n k = true ∧ Row wr w.heap.size 4 n (marks xs n k) ∧ Below w.heap.size w wr) (fun _ i _ => n - (intOf i).toNat)
  case atStart => exact ⟨0, Nat.zero_le _, rfl, by simp [ordB], hrow, hbel⟩
  case round =>
    obtain ⟨k, hk, rfl, hno, hrk, hbk⟩ := hrel
    have HO := Lib.hid hno; have HR := Lib.hid hrk; have HB := Lib.hid hbk
    clear hno hrk hbk hrow hbel
    by_cases hlt : k < n
    · have hkx : k < xs.length := by have := HN.out; omega
      have hcell : wr.cell? ⟨g, o + k, none⟩ = some (.int .i64 xs[k]) := by
        have h1 := HC.out k hkx
        rw [HB.out.cell (block_lt_of_cell h1)]; exact h1
      have hs := ordB_succ xs n k hkx
      rw [HO.out, Bool.true_and] at hs
      have hmono := ordB_mono xs n (k + 1) n (by omega)
      have HS := Lib.hid hs; have HM := Lib.hid hmono
      clear hs hmono
      by_cases h1 : inB xs[k] 0 (n - 1) = true
      · obtain ⟨b0, b1⟩ := inB_lo h1
        have hb2 : xs[k] < (n : Int) := by omega
        have hseen : wr.cell? ⟨w.heap.size, xs[k].toNat, none⟩ = some (.bool (hasB (xs.take k) xs[k])) := by
          rw [HR.out.cell xs[k].toNat (by rw [marks_len]; omega)]
          simp only [marks, List.getElem_map, List.getElem_range]
          rw [show ((xs[k].toNat : Nat) : Int) = xs[k] by omega]
        have hfree := HR.out.free xs[k].toNat
        have hset := HR.out.set xs[k].toNat (.bool true)
        rw [marks_set xs n k hkx b0] at hset
        have HS2 := Lib.hid hset
        clear hset
        by_cases hx : hasB (xs.take k) xs[k] = true
        · go_wp2_with (go_at_call 71; refine (within_any _ _ _ _).mono ?_; rintro e w' ⟨rfl, rfl⟩)
          go_ret
          exact ⟨ret_bool (HM.out (by rw [HS.out, h1, hx]; rfl)).symm, HB.out⟩
        · rw [Bool.not_eq_true] at hx
          have hs : ordB xs n (k + 1) = true := by rw [HS.out, h1, hx]; rfl
          have H2 := Lib.hid hs; clear hs
          go_wp2_with (go_at_call 71; refine (within_any _ _ _ _).mono ?_; rintro e w' ⟨rfl, rfl⟩)
          go_roundw
          case rel => exact ⟨k + 1, by omega, by go_num, H2.out, HS2.out, HB.out.setCell (Nat.le_refl _) _⟩
          case measure => simp [intOf]; omega
      · rw [Bool.not_eq_true] at h1
        go_wp2_with (go_at_call 71; refine (within_any _ _ _ _).mono ?_; rintro e w' ⟨rfl, rfl⟩)
        go_ret
        exact ⟨ret_bool (HM.out (by rw [HS.out, h1]; rfl)).symm, HB.out⟩
    · obtain rfl : k = n := by omega
      go_wp2
      go_ret
      exact ⟨ret_bool HO.out.symm, HB.out⟩
end Go.Proofs.Ytncmhinpjkkfkaa
