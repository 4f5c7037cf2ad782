/-
  Walks: valid jobs; the laws SameJobs and AreJobs. Conditions: none.
-/
import Derived.Test.YtncmhinpjkkfkaaK2
set_option linter.unusedVariables false
set_option linter.unusedSimpArgs false
namespace Go.Proofs.Ytncmhinpjkkfkaa
open Go Go.RowKit

def jobB (j : J) : Bool := inB j.time 1 10000 && inB j.rel 0 10000 && inB j.due 0 10000 && inB j.wt 0 10000

set_option maxHeartbeats 1000000 in
theorem l02Job_any (g p : Nat) (a b c d : Int) (w : World) (c0 : w.cell? ⟨g, p, none⟩ = some (.int .i64 a)) (c1 : w.cell? ⟨g, p + 1, none⟩ = some (.int .i64 b)) (c2 : w.cell? ⟨g, p + 2, none⟩ = some (.int .i64 c)) (c3 : w.cell? ⟨g, p + 3, none⟩ = some (.int .i64 d)) :
    Calls Try.prog 124 #[.pointer (some ⟨g, p, none⟩)] w fun e w' => e = .returned (.bool (jobB ⟨a, b, c, d⟩)) ∧ w = w' := by
  cases h1 : inB a 1 10000
  · go_enter Try.func124, Try.ntmps124
    go_wp2_with (go_at_call 69; refine (l00In_any _ _ _ _).mono ?_; rintro e w' ⟨rfl, rfl⟩)
    go_ret
    exact ⟨ret_bool (by simp [jobB, h1]), rfl⟩
  cases h2 : inB b 0 10000
  · go_enter Try.func124, Try.ntmps124
    go_wp2_with (go_at_call 69; refine (l00In_any _ _ _ _).mono ?_; rintro e w' ⟨rfl, rfl⟩)
    go_ret
    exact ⟨ret_bool (by simp [jobB, h2]), rfl⟩
  cases h3 : inB c 0 10000
  · go_enter Try.func124, Try.ntmps124
    go_wp2_with (go_at_call 69; refine (l00In_any _ _ _ _).mono ?_; rintro e w' ⟨rfl, rfl⟩)
    go_ret
    exact ⟨ret_bool (by simp [jobB, h3]), rfl⟩
  · go_enter Try.func124, Try.ntmps124
    go_wp2_with (go_at_call 69; refine (l00In_any _ _ _ _).mono ?_; rintro e w' ⟨rfl, rfl⟩)
    go_ret
    exact ⟨ret_bool (by simp [jobB, h1, h2, h3]), rfl⟩

def jobsK (js : List J) (k : Nat) : Bool := (js.take k).all jobB
def jobsB (js : List J) : Bool := jobsK js js.length && (decide (1 ≤ js.length) && decide (js.length ≤ 24))
theorem jobsK_succ (js : List J) (k : Nat) (h : k < js.length) : jobsK js (k + 1) = (jobsK js k && jobB js[k]) := by
  unfold jobsK; rw [List.take_succ_eq_append_getElem h, List.all_append]; simp
theorem jobsK_false (js : List J) (k : Nat) (hk : k ≤ js.length) (h : jobsK js k = false) : jobsB js = false := by
  have h1 : jobsK js js.length = false := by
    unfold jobsK at *
    rw [List.take_length]
    rw [List.all_eq_false] at *
    obtain ⟨x, hx, hp⟩ := h
    exact ⟨x, List.mem_of_mem_take hx, hp⟩
  rw [jobsB, h1, Bool.false_and]

theorem jobsB_end (js : List J) (n : Nat) (hn : js.length = n) (h : jobsK js n = true) : jobsB js = (decide (1 ≤ n) && decide (n ≤ 24)) := by
  subst hn; rw [jobsB, h, Bool.true_and]

set_option maxHeartbeats 1000000 in
theorem l02Jobs_any (a : Option Addr) (n c : Nat) (js : List J) (w : World) (hn : js.length = n) (hm : n ≤ 1048576) (hc : JAt w a js) :
    Calls Try.prog 77 #[.slice a n c] w fun e w' => e = .returned (.bool (jobsB js)) ∧ w = w' := by
  have HN := Lib.hid hn
  by_cases h0 : n = 0
  · have hb := jobsB_end js n hn (by subst h0; simp [jobsK])
    subst h0
    have HB := Lib.hid hb
    clear hn hc hb
    go_enter Try.func77, Try.ntmps77
    go_wp2
    refine wp_loop_rounds 1 ?_; rw [rounds_succ]
    go_wp2
    go_ret
    exact ⟨ret_bool (by rw [HB.out]; rfl), rfl⟩
  rcases hc with rfl | ⟨g, o, rfl, hc⟩
  · simp at hn; omega
  have HC := Lib.hid hc
  clear hc hn
  go_enter Try.func77, Try.ntmps77
  go_wp2
  go_loop [3] (fun i => ∃ k : Nat, k ≤ n ∧ i = .int .i64 k ∧ jobsK js k = true) (fun i => n - (intOf i).toNat)
  case atStart => exact ⟨0, Nat.zero_le _, rfl, by simp [jobsK]⟩
  case round =>
    obtain ⟨k, hk, rfl, hno⟩ := hrel
    have HO := Lib.hid hno
    clear hno
    by_cases hlt : k < n
    · have hkx : k < js.length := by have := HN.out; omega
      obtain ⟨c0, c1, c2, c3⟩ := HC.out k hkx
      have C0 := Lib.hid c0; have C1 := Lib.hid c1; have C2 := Lib.hid c2; have C3 := Lib.hid c3
      have hs := jobsK_succ js k hkx
      rw [HO.out, Bool.true_and] at hs
      have hf := jobsK_false js (k + 1) (by omega)
      have HS := Lib.hid hs; have HF := Lib.hid hf
      clear hs hf c0 c1 c2 c3
      cases h1 : jobB js[k]
      · go_wp2_with (go_at_call 124; refine (l02Job_any g (o + k * 4) _ _ _ _ _ C0.out C1.out C2.out C3.out).mono ?_; rintro e w' ⟨rfl, rfl⟩; rw [show jobB ⟨js[k].time, js[k].rel, js[k].due, js[k].wt⟩ = false from h1])
        go_ret
        exact ⟨ret_bool (HF.out (by rw [HS.out, h1])).symm, rfl⟩
      · go_wp2_with (go_at_call 124; refine (l02Job_any g (o + k * 4) _ _ _ _ _ C0.out C1.out C2.out C3.out).mono ?_; rintro e w' ⟨rfl, rfl⟩; rw [show jobB ⟨js[k].time, js[k].rel, js[k].due, js[k].wt⟩ = true from h1])
        go_round
        case rel => exact ⟨k + 1, by omega, by go_num, by rw [HS.out, h1]⟩
        case measure => simp [intOf]; omega
    · obtain rfl : k = n := by omega
      have hb := jobsB_end js k HN.out HO.out
      have HB := Lib.hid hb; clear hb
      by_cases h2 : k ≤ 24
      · go_wp2
        go_ret
        exact ⟨ret_bool (by rw [HB.out, decide_eq_true (show 1 ≤ k by omega), decide_eq_true h2]; first | rfl | (simp; omega)), rfl⟩
      · go_wp2
        go_ret
        exact ⟨ret_bool (by rw [HB.out, decide_eq_true (show 1 ≤ k by omega), decide_eq_false (show ¬ k ≤ 24 by omega)]; first | rfl | (simp; omega)), rfl⟩

theorem specAreJobs_any (a : Option Addr) (n c : Nat) (js : List J) (w : World) (hn : js.length = n) (hm : n ≤ 1048576) (hc : JAt w a js) :
    Calls Try.prog 31 #[.slice a n c] w fun e w' => e = .returned (.bool (jobsB js)) ∧ w = w' := by
  have HN := Lib.hid hn; have HC := Lib.hid hc; clear hn hc
  go_enter Try.func31, Try.ntmps31
  go_wp2_with (go_at_call 77; refine (l02Jobs_any _ n c js _ HN.out hm HC.out).mono ?_; rintro e w' ⟨rfl, rfl⟩)
  go_ret
  exact ⟨rfl, rfl⟩

theorem jobB_parts (j : J) : jobB j = (inB j.time 1 10000 && allIn [j.rel, j.due, j.wt] 0 10000) := by
  simp [jobB, allIn, Bool.and_assoc]

theorem at3 (w : World) (n : Nat) (a b c : Int) (hn : n = w.heap.size) : At (w.alloc (.cells #[.int .i64 a, .int .i64 b, .int .i64 c] 2)) (some ⟨n, 0, none⟩) [a, b, c] := by
  subst hn
  refine .inr ⟨_, 0, rfl, fun j hj => ?_⟩
  match j, hj with
  | 0, _ => simp
  | 1, _ => simp
  | 2, _ => simp

set_option maxHeartbeats 2000000 in
theorem implAreJobs_any (a : Option Addr) (n c : Nat) (js : List J) (w : World) (hn : js.length = n) (hm : n ≤ 1048576) (hc : JAt w a js) :
    Calls Try.prog 32 #[.slice a n c] w fun e w' => e = .returned (.bool (jobsB js)) ∧ Below w.heap.size w w' := by
  have HN := Lib.hid hn
  by_cases h0 : n = 0
  · have hb := jobsB_end js n hn (by subst h0; simp [jobsK])
    subst h0
    have HB := Lib.hid hb
    clear hn hc hb
    go_enter Try.func32, Try.ntmps32
    go_wp2
    refine wp_loop_rounds 1 ?_; rw [rounds_succ]
    go_wp2
    go_ret
    exact ⟨ret_bool (by rw [HB.out]; rfl), .refl _ _⟩
  rcases hc with rfl | ⟨g, o, rfl, hc⟩
  · simp at hn; omega
  have HC := Lib.hid hc
  have HG := block_lt_of_cell (hc 0 (by omega)).1
  clear hc hn
  go_enter Try.func32, Try.ntmps32
  go_wp2
  go_loopw [4, 7] (fun _ i wr => ∃ k : Nat, k ≤ n ∧ i = .int .i64 k ∧ jobsK js k = true ∧ Below w.heap.size w wr) (fun _ i _ => n - (intOf i).toNat)
  case atStart => exact ⟨0, Nat.zero_le _, rfl, by simp [jobsK], .refl _ _⟩
  case round =>
    obtain ⟨k, hk, rfl, hno, hb⟩ := hrel
    have HO := Lib.hid hno; have HB := Lib.hid hb
    by_cases hlt : k < n
    · have hkx : k < js.length := by have := HN.out; omega
      obtain ⟨c0, c1, c2, c3⟩ := HC.out.below hb HG k hkx
      have hs := jobsK_succ js k hkx
      rw [HO.out, Bool.true_and, jobB_parts] at hs
      have hf := jobsK_false js (k + 1) (by omega)
      have HS := Lib.hid hs; have HF := Lib.hid hf
      clear hs hf hno hb
      cases h1 : inB js[k].time 1 10000
      · go_wp2_with (go_at_call 71; refine (within_any _ _ _ _).mono ?_; rintro e w' ⟨rfl, rfl⟩)
        go_ret
        exact ⟨ret_bool (HF.out (by rw [HS.out, h1, Bool.false_and])).symm, HB.out.alloc HB.out.size _⟩
      · cases h2 : allIn [js[k].rel, js[k].due, js[k].wt] 0 10000
        · go_wp2_with (first | (go_at_call 71; refine (within_any _ _ _ _).mono ?_; rintro e w' ⟨rfl, rfl⟩) | (go_at_call 78; refine (areWithin_any _ 3 3 [js[k].rel, js[k].due, js[k].wt] _ _ _ rfl (by omega) (at3 _ _ _ _ _ (by simp))).mono ?_; rintro e w' ⟨rfl, rfl⟩))
          go_ret
          exact ⟨ret_bool (HF.out (by rw [HS.out, h1, h2]; rfl)).symm, (HB.out.alloc HB.out.size _).alloc (by have := HB.out.size; simp; omega) _⟩
        · go_wp2_with (first | (go_at_call 71; refine (within_any _ _ _ _).mono ?_; rintro e w' ⟨rfl, rfl⟩) | (go_at_call 78; refine (areWithin_any _ 3 3 [js[k].rel, js[k].due, js[k].wt] _ _ _ rfl (by omega) (at3 _ _ _ _ _ (by simp))).mono ?_; rintro e w' ⟨rfl, rfl⟩))
          go_roundw
          case rel => exact ⟨k + 1, by omega, by go_num, by rw [HS.out, h1, h2]; rfl, (HB.out.alloc HB.out.size _).alloc (by have := HB.out.size; simp; omega) _⟩
          case measure => simp [intOf]; omega
    · obtain rfl : k = n := by omega
      have hb2 := jobsB_end js k HN.out HO.out
      have HB2 := Lib.hid hb2; clear hb2 hno hb
      by_cases h2 : k ≤ 24
      · go_wp2
        go_ret
        exact ⟨ret_bool (by rw [HB2.out, decide_eq_true (show 1 ≤ k by omega), decide_eq_true h2]; first | rfl | (simp; omega)), HB.out⟩
      · go_wp2
        go_ret
        exact ⟨ret_bool (by rw [HB2.out, decide_eq_true (show 1 ≤ k by omega), decide_eq_false (show ¬ k ≤ 24 by omega)]; first | rfl | (simp; omega)), HB.out⟩

end Go.Proofs.Ytncmhinpjkkfkaa
