/-
  Walks: sums, greatest elements and ranges of lists of integers; the law LastBound. Conditions: none.
-/
import Derived.Test.YtncmhinpjkkfkaaJ4
set_option linter.unusedVariables false
set_option linter.unusedSimpArgs false
namespace Go.Proofs.Ytncmhinpjkkfkaa
open Go Go.RowKit

def allIn (xs : List Int) (lo hi : Int) : Bool := xs.all fun x => inB x lo hi
theorem allIn_succ (xs : List Int) (lo hi : Int) (k : Nat) (h : k < xs.length) : allIn (xs.take (k + 1)) lo hi = (allIn (xs.take k) lo hi && inB xs[k] lo hi) := by
  unfold allIn; rw [List.take_succ_eq_append_getElem h, List.all_append]; simp
theorem allIn_false (xs : List Int) (lo hi : Int) (k : Nat) (h : allIn (xs.take k) lo hi = false) : allIn xs lo hi = false := by
  unfold allIn at *
  rw [List.all_eq_false] at *
  obtain ⟨x, hx, hp⟩ := h
  exact ⟨x, List.mem_of_mem_take hx, hp⟩
theorem allIn_mem {xs : List Int} {lo hi : Int} (h : allIn xs lo hi = true) : ∀ x ∈ xs, lo ≤ x ∧ x ≤ hi := fun x hx => inB_lo (List.all_eq_true.1 h x hx)

set_option maxHeartbeats 1000000 in
theorem areWithin_any (a : Option Addr) (n c : Nat) (xs : List Int) (lo hi : Int) (w : World) (hn : xs.length = n) (hm : n ≤ 1048576) (hc : At w a xs) :
    Calls Try.prog 78 #[.slice a n c, .int .i64 lo, .int .i64 hi] w fun e w' => e = .returned (.bool (allIn xs lo hi)) ∧ w = w' := by
  have HN := Lib.hid hn
  by_cases h0 : n = 0
  · subst h0
    have hx : xs = [] := List.eq_nil_of_length_eq_zero hn
    clear hn hc
    go_enter Try.func78, Try.ntmps78
    go_wp2
    refine wp_loop_rounds 1 ?_; rw [rounds_succ]
    go_wp2
    go_ret
    exact ⟨ret_bool (by rw [hx]; rfl), rfl⟩
  rcases hc with rfl | ⟨g, o, rfl, hc⟩
  · simp at hn; omega
  have HC := Lib.hid hc
  clear hc hn
  go_enter Try.func78, Try.ntmps78
  go_wp2
  go_loop [8, 11] (fun _ i => ∃ k : Nat, k ≤ n ∧ i = .int .i64 k ∧ allIn (xs.take k) lo hi = true) (fun _ i => n - (intOf i).toNat)
  case atStart => exact ⟨0, Nat.zero_le _, rfl, by simp [allIn]⟩
  case round =>
    obtain ⟨k, hk, rfl, hno⟩ := hrel
    have HO := Lib.hid hno
    clear hno
    by_cases hlt : k < n
    · have hkx : k < xs.length := by have := HN.out; omega
      have hcell := HC.out k hkx
      have hs := allIn_succ xs lo hi k hkx
      rw [HO.out, Bool.true_and] at hs
      have hf := allIn_false xs lo hi (k + 1)
      have HS := Lib.hid hs; have HF := Lib.hid hf
      clear hs hf
      by_cases h1 : inB xs[k] lo hi = true
      · go_wp2_with (go_at_call 71; refine (within_any _ _ _ _).mono ?_; rintro e w' ⟨rfl, rfl⟩)
        go_round
        case rel => exact ⟨k + 1, by omega, by go_num, by rw [HS.out, h1]⟩
        case measure => simp [intOf]; omega
      · rw [Bool.not_eq_true] at h1
        go_wp2_with (go_at_call 71; refine (within_any _ _ _ _).mono ?_; rintro e w' ⟨rfl, rfl⟩)
        go_ret
        exact ⟨ret_bool (HF.out (by rw [HS.out, h1])).symm, rfl⟩
    · have hfin : allIn xs lo hi = true := by
        have := HO.out; rw [List.take_of_length_le (by have := HN.out; omega)] at this; exact this
      have HF := Lib.hid hfin; clear hfin
      go_wp2
      go_ret
      exact ⟨ret_bool HF.out.symm, rfl⟩

def manyB (xs : List Int) (few many lo hi : Int) : Bool := decide (few ≤ (xs.length : Int)) && (decide ((xs.length : Int) ≤ many) && allIn xs lo hi)

theorem areMany_any (a : Option Addr) (n c : Nat) (xs : List Int) (few many lo hi : Int) (w : World) (hn : xs.length = n) (hm : n ≤ 1048576) (hc : At w a xs) :
    Calls Try.prog 126 #[.slice a n c, .int .i64 few, .int .i64 many, .int .i64 lo, .int .i64 hi] w fun e w' => e = .returned (.bool (manyB xs few many lo hi)) ∧ w = w' := by
  have hb : manyB xs few many lo hi = (decide (few ≤ (n : Int)) && (decide ((n : Int) ≤ many) && allIn xs lo hi)) := by rw [← hn]; rfl
  have HB := Lib.hid hb; have HC := Lib.hid hc; have HN := Lib.hid hn
  clear hb hc hn
  by_cases h1 : few ≤ (n : Int)
  · by_cases h2 : (n : Int) ≤ many
    · go_enter Try.func126, Try.ntmps126
      go_wp2_with (go_at_call 78; refine (areWithin_any _ _ _ _ _ _ _ HN.out hm HC.out).mono ?_; rintro e w' ⟨rfl, rfl⟩)
      go_ret
      exact ⟨ret_bool (by rw [HB.out, decide_eq_true h1, decide_eq_true h2]; simp), rfl⟩
    · have h2' : decide ((n : Int) ≤ many) = false := decide_eq_false h2
      go_enter Try.func126, Try.ntmps126
      go_wp2
      go_ret
      exact ⟨ret_bool (by rw [HB.out, h2']; simp), rfl⟩
  · have h1' : decide (few ≤ (n : Int)) = false := decide_eq_false h1
    go_enter Try.func126, Try.ntmps126
    go_wp2
    go_ret
    exact ⟨ret_bool (by rw [HB.out, h1']; simp), rfl⟩

def timesB (xs : List Int) : Bool := manyB xs 1 24 1 10000
def machB (m : Int) : Bool := inB m 1 8

theorem areTimes_any (a : Option Addr) (n c : Nat) (xs : List Int) (w : World) (hn : xs.length = n) (hm : n ≤ 1048576) (hc : At w a xs) :
    Calls Try.prog 82 #[.slice a n c] w fun e w' => e = .returned (.bool (timesB xs)) ∧ w = w' := by
  go_enter Try.func82, Try.ntmps82
  have HC := Lib.hid hc; have HN := Lib.hid hn
  clear hc hn
  go_wp2_with (go_at_call 126; refine (areMany_any _ _ _ _ _ _ _ _ _ HN.out hm HC.out).mono ?_; rintro e w' ⟨rfl, rfl⟩)
  go_ret
  exact ⟨rfl, rfl⟩

theorem areMachines_any (m : Int) (w : World) : Calls Try.prog 83 #[.int .i64 m] w fun e w' => e = .returned (.bool (machB m)) ∧ w = w' := by
  go_enter Try.func83, Try.ntmps83
  go_wp2_with (go_at_call 71; refine (within_any _ _ _ _).mono ?_; rintro e w' ⟨rfl, rfl⟩)
  go_ret
  exact ⟨rfl, rfl⟩

theorem l02Machines_any (m : Int) (w : World) : Calls Try.prog 80 #[.int .i64 m] w fun e w' => e = .returned (.bool (machB m)) ∧ w = w' := by
  go_enter Try.func80, Try.ntmps80
  go_wp2_with (go_at_call 69; refine (l00In_any _ _ _ _).mono ?_; rintro e w' ⟨rfl, rfl⟩)
  go_ret
  exact ⟨rfl, rfl⟩

set_option maxHeartbeats 1000000 in
theorem l02Times_any (a : Option Addr) (n c : Nat) (xs : List Int) (w : World) (hn : xs.length = n) (hm : n ≤ 1048576) (hc : At w a xs) :
    Calls Try.prog 79 #[.slice a n c] w fun e w' => e = .returned (.bool (timesB xs)) ∧ w = w' := by
  have hb : timesB xs = (decide (1 ≤ (n : Int)) && (decide ((n : Int) ≤ 24) && allIn xs 1 10000)) := by rw [← hn]; rfl
  have HB := Lib.hid hb; have HN := Lib.hid hn
  clear hb
  by_cases h0 : n = 0
  · subst h0
    clear hn hc
    go_enter Try.func79, Try.ntmps79
    go_wp2
    refine wp_loop_rounds 1 ?_; rw [rounds_succ]
    go_wp2
    go_ret
    exact ⟨ret_bool (by rw [HB.out]; rfl), rfl⟩
  rcases hc with rfl | ⟨g, o, rfl, hc⟩
  · simp at hn; omega
  have HC := Lib.hid hc
  clear hc hn
  go_enter Try.func79, Try.ntmps79
  go_wp2
  go_loop [3] (fun i => ∃ k : Nat, k ≤ n ∧ i = .int .i64 k ∧ allIn (xs.take k) 1 10000 = true) (fun i => n - (intOf i).toNat)
  case atStart => exact ⟨0, Nat.zero_le _, rfl, by simp [allIn]⟩
  case round =>
    obtain ⟨k, hk, rfl, hno⟩ := hrel
    have HO := Lib.hid hno
    clear hno
    by_cases hlt : k < n
    · have hkx : k < xs.length := by have := HN.out; omega
      have hcell := HC.out k hkx
      have hs := allIn_succ xs 1 10000 k hkx
      rw [HO.out, Bool.true_and] at hs
      have hf := allIn_false xs 1 10000 (k + 1)
      have HS := Lib.hid hs; have HF := Lib.hid hf
      clear hs hf
      by_cases h1 : inB xs[k] 1 10000 = true
      · go_wp2_with (go_at_call 69; refine (l00In_any _ _ _ _).mono ?_; rintro e w' ⟨rfl, rfl⟩)
        go_round
        case rel => exact ⟨k + 1, by omega, by go_num, by rw [HS.out, h1]⟩
        case measure => simp [intOf]; omega
      · rw [Bool.not_eq_true] at h1
        go_wp2_with (go_at_call 69; refine (l00In_any _ _ _ _).mono ?_; rintro e w' ⟨rfl, rfl⟩)
        go_ret
        exact ⟨ret_bool (by rw [HB.out, HF.out (by rw [HS.out, h1])]; simp), rfl⟩
    · have hfin : allIn xs 1 10000 = true := by
        have := HO.out; rw [List.take_of_length_le (by have := HN.out; omega)] at this; exact this
      have HF := Lib.hid hfin; clear hfin
      by_cases h2 : n ≤ 24
      · go_wp2
        go_ret
        exact ⟨ret_bool (by rw [HB.out, HF.out, decide_eq_true (show (1 : Int) ≤ n by omega), decide_eq_true (show (n : Int) ≤ 24 by omega)]; first | rfl | (simp; omega)), rfl⟩
      · go_wp2
        go_ret
        exact ⟨ret_bool (by rw [HB.out, HF.out, decide_eq_true (show (1 : Int) ≤ n by omega), decide_eq_false (show ¬ (n : Int) ≤ 24 by omega)]; first | rfl | (simp; omega)), rfl⟩

theorem timesB_of {xs : List Int} (h : timesB xs = true) : 1 ≤ xs.length ∧ xs.length ≤ 24 ∧ ∀ x ∈ xs, 1 ≤ x ∧ x ≤ 10000 := by
  unfold timesB manyB at h
  simp only [Bool.and_eq_true, decide_eq_true_eq] at h
  exact ⟨by omega, by omega, allIn_mem h.2.2⟩

/-! ### Sums -/
def sumK (xs : List Int) (k : Nat) : Int := (xs.take k).sum
theorem sumK_succ (xs : List Int) (k : Nat) (h : k < xs.length) : sumK xs (k + 1) = sumK xs k + xs[k] := by
  unfold sumK; rw [List.take_succ_eq_append_getElem h, List.sum_append]; simp
theorem sumK_bd (xs : List Int) (M : Int) (h : ∀ x ∈ xs, 0 ≤ x ∧ x ≤ M) : ∀ k, k ≤ xs.length → 0 ≤ sumK xs k ∧ sumK xs k ≤ k * M := by
  intro k
  induction k with
  | zero => intro _; simp [sumK]
  | succ k ih =>
    intro hk
    have h1 := ih (by omega)
    have h2 := h xs[k] (List.getElem_mem _)
    rw [sumK_succ xs k (by omega)]
    rw [show ((k + 1 : Nat) : Int) * M = k * M + M by rw [Int.natCast_add, Int.add_mul]; simp]
    omega

set_option maxHeartbeats 1000000 in
theorem sumOf_any (g o c : Nat) (n : Nat) (xs : List Int) (w : World) (hn : xs.length = n) (hm : n ≤ 1000) (hb : ∀ x ∈ xs, 0 ≤ x ∧ x ≤ 1000000) (hc : Rd w g o xs) :
    Calls Try.prog 86 #[.slice (some ⟨g, o, none⟩) n c] w fun e w' => e = .returned (.int .i64 (sumK xs n)) ∧ w = w' := by
  have HN := Lib.hid hn; have HC := Lib.hid hc; have HB := Lib.hid hb
  clear hn hc hb
  go_enter Try.func86, Try.ntmps86
  go_wp2
  go_loop [3, 5, 8] (fun s _ i => ∃ k : Nat, k ≤ n ∧ i = .int .i64 k ∧ s = .int .i64 (sumK xs k)) (fun _ _ i => n - (intOf i).toNat)
  case atStart => exact ⟨0, Nat.zero_le _, rfl, rfl⟩
  case round =>
    obtain ⟨k, hk, rfl, rfl⟩ := hrel
    have hbd := sumK_bd xs 1000000 HB.out k (by have := HN.out; omega)
    obtain ⟨b0, b1⟩ := hbd
    by_cases hlt : k < n
    · have hkx : k < xs.length := by have := HN.out; omega
      have hcell := HC.out k hkx
      have hx := HB.out xs[k] (List.getElem_mem _)
      obtain ⟨b2, b3⟩ := hx
      have hs := sumK_succ xs k hkx
      have HS := Lib.hid hs
      clear hs
      go_wp2
      go_round
      case rel => exact ⟨k + 1, by omega, by go_num, by rw [HS.out]⟩
      case measure => simp [intOf]; omega
    · obtain rfl : k = n := by omega
      go_wp2
      go_ret
      exact ⟨rfl, rfl⟩

set_option maxHeartbeats 1000000 in
theorem l02Sum_any (g o c : Nat) (n : Nat) (xs : List Int) (w : World) (hn : xs.length = n) (hm : n ≤ 1000) (hb : ∀ x ∈ xs, 0 ≤ x ∧ x ≤ 1000000) (hc : Rd w g o xs) :
    Calls Try.prog 125 #[.slice (some ⟨g, o, none⟩) n c] w fun e w' => e = .returned (.int .i64 (sumK xs n)) ∧ w = w' := by
  have HN := Lib.hid hn; have HC := Lib.hid hc; have HB := Lib.hid hb
  clear hn hc hb
  go_enter Try.func125, Try.ntmps125
  go_wp2
  go_loop [3, 4] (fun s i => ∃ k : Nat, k ≤ n ∧ i = .int .i64 k ∧ s = .int .i64 (sumK xs k)) (fun _ i => n - (intOf i).toNat)
  case atStart => exact ⟨0, Nat.zero_le _, rfl, rfl⟩
  case round =>
    obtain ⟨k, hk, rfl, rfl⟩ := hrel
    have hbd := sumK_bd xs 1000000 HB.out k (by have := HN.out; omega)
    obtain ⟨b0, b1⟩ := hbd
    by_cases hlt : k < n
    · have hkx : k < xs.length := by have := HN.out; omega
      have hcell := HC.out k hkx
      have hx := HB.out xs[k] (List.getElem_mem _)
      obtain ⟨b2, b3⟩ := hx
      have hs := sumK_succ xs k hkx
      have HS := Lib.hid hs
      clear hs
      go_wp2
      go_round
      case rel => exact ⟨k + 1, by omega, by go_num, by rw [HS.out]⟩
      case measure => simp [intOf]; omega
    · obtain rfl : k = n := by omega
      go_wp2
      go_ret
      exact ⟨rfl, rfl⟩

/-! ### The greatest -/
def mxK (xs : List Int) (k : Nat) : Int := (xs.take k).foldl max (xs.getD 0 0)
theorem mxK_succ (xs : List Int) (k : Nat) (h : k < xs.length) : mxK xs (k + 1) = max (mxK xs k) xs[k] := by
  unfold mxK; rw [List.take_succ_eq_append_getElem h, List.foldl_append]; simp
theorem ite_max (a b : Int) : (if a < b then b else a) = max a b := by split <;> omega
theorem mxK_one (xs : List Int) (h : 0 < xs.length) : mxK xs 1 = xs[0] := by
  rw [mxK_succ xs 0 h]; unfold mxK; simp [List.getElem?_eq_getElem h]

theorem l00Max_any (x y : Int) (w : World) : Calls Try.prog 97 #[.int .i64 x, .int .i64 y] w fun e w' => e = .returned (.int .i64 (max x y)) ∧ w = w' := by
  by_cases h : y < x
  · go_enter Try.func97, Try.ntmps97
    go_wp2
    go_ret
    exact ⟨ret_int (by omega), rfl⟩
  · go_enter Try.func97, Try.ntmps97
    go_wp2
    go_ret
    exact ⟨ret_int (by omega), rfl⟩

set_option maxHeartbeats 1000000 in
theorem l02Greatest_any (g o c : Nat) (n : Nat) (xs : List Int) (w : World) (hn : xs.length = n) (hm : n ≤ 1048576) (h1 : 1 ≤ n) (hc : Rd w g o xs) :
    Calls Try.prog 90 #[.slice (some ⟨g, o, none⟩) n c] w fun e w' => e = .returned (.int .i64 (mxK xs n)) ∧ w = w' := by
  have HN := Lib.hid hn; have HC := Lib.hid hc
  have hpos : 0 < xs.length := by omega
  have hcell := hc 0 hpos
  rw [Nat.add_zero] at hcell
  have hone := mxK_one xs hpos
  have HO := Lib.hid hone
  clear hn hc hone
  go_enter Try.func90, Try.ntmps90
  go_wp2
  go_loop [3, 4] (fun s i => ∃ k : Nat, 1 ≤ k ∧ k ≤ n ∧ i = .int .i64 k ∧ s = .int .i64 (mxK xs k)) (fun _ i => n - (intOf i).toNat)
  case atStart => exact ⟨1, by omega, h1, rfl, by rw [HO.out]⟩
  case round =>
    obtain ⟨k, hk1, hk, rfl, rfl⟩ := hrel
    clear hcell
    by_cases hlt : k < n
    · have hkx : k < xs.length := by have := HN.out; omega
      have hcell := HC.out k hkx
      have hs := mxK_succ xs k hkx
      have HS := Lib.hid hs
      clear hs
      go_wp2_with (go_at_call 97; refine (l00Max_any _ _ _).mono ?_; rintro e w' ⟨rfl, rfl⟩)
      go_round
      case rel => exact ⟨k + 1, by omega, by omega, by go_num, by rw [HS.out]⟩
      case measure => simp [intOf]; omega
    · obtain rfl : k = n := by omega
      go_wp2
      go_ret
      exact ⟨rfl, rfl⟩

set_option maxHeartbeats 1000000 in
theorem slicesMax_any (g o c : Nat) (n : Nat) (xs : List Int) (w : World) (hn : xs.length = n) (hm : n ≤ 1048576) (h1 : 1 ≤ n) (hc : Rd w g o xs) :
    Calls Try.prog 84 #[.slice (some ⟨g, o, none⟩) n c] w fun e w' => e = .returned (.int .i64 (mxK xs n)) ∧ w = w' := by
  have HN := Lib.hid hn; have HC := Lib.hid hc
  have hpos : 0 < xs.length := by omega
  have hcell := hc 0 hpos
  rw [Nat.add_zero] at hcell
  have hone := mxK_one xs hpos
  have HO := Lib.hid hone
  clear hn hc hone
  go_enter Try.func84, Try.ntmps84
  go_wp2
  go_loop [3, 4] (fun s i => ∃ k : Nat, 1 ≤ k ∧ k ≤ n ∧ i = .int .i64 k ∧ s = .int .i64 (mxK xs k)) (fun _ i => n - (intOf i).toNat)
  case atStart => exact ⟨1, by omega, h1, rfl, by rw [HO.out]⟩
  case round =>
    obtain ⟨k, hk1, hk, rfl, rfl⟩ := hrel
    clear hcell
    by_cases hlt : k < n
    · have hkx : k < xs.length := by have := HN.out; omega
      have hcell := HC.out k hkx
      have hs := mxK_succ xs k hkx
      have HS := Lib.hid hs
      clear hs
      go_wp2
      go_round
      case rel => exact ⟨k + 1, by omega, by omega, by go_num, by rw [HS.out, ← ite_max]⟩
      case measure => simp [intOf]; omega
    · obtain rfl : k = n := by omega
      go_wp2
      go_ret
      exact ⟨rfl, rfl⟩

theorem mxK_bd (xs : List Int) (lo hi : Int) (h : ∀ x ∈ xs, lo ≤ x ∧ x ≤ hi) (h1 : 0 < xs.length) : ∀ k, k < xs.length → lo ≤ mxK xs (k + 1) ∧ mxK xs (k + 1) ≤ hi := by
  intro k
  induction k with
  | zero => intro _; rw [mxK_one xs h1]; exact h _ (List.getElem_mem _)
  | succ k ih =>
    intro hk
    have i1 := ih (by omega)
    have i2 := h xs[k + 1] (List.getElem_mem _)
    rw [mxK_succ xs (k + 1) hk]
    omega

theorem upward_any (x m : Int) (w : World) (h1 : 0 ≤ x) (h2 : x ≤ 1000000000) (h3 : 1 ≤ m) (h4 : m ≤ 8) :
    Calls Try.prog 85 #[.int .i64 x, .int .i64 m] w fun e w' => e = .returned (.int .i64 ((x + m - 1) / m)) ∧ w = w' := by
  have hm : (m == 0) = false := by simp; omega
  go_enter Try.func85, Try.ntmps85
  go_wp2
  go_ret
  exact ⟨rfl, rfl⟩

def boundV (xs : List Int) (n : Nat) (m : Int) : Int := max (mxK xs n) ((sumK xs n + m - 1) / m)
def boundR (xs : List Int) (n : Nat) (m : Int) : Value := if timesB xs && machB m then .tuple #[.int .i64 (boundV xs n m), .bool true] else .tuple #[.int .i64 0, .bool false]
theorem ret_val {a b : Value} (h : a = b) : Ending.returned a = .returned b := by rw [h]

theorem l02Bound_any (g c n : Nat) (xs : List Int) (m : Int) (w : World) (hn : xs.length = n) (hc : Rd w g 0 xs) (ht : timesB xs = true) (hm : machB m = true) :
    Calls Try.prog 81 #[.slice (some ⟨g, 0, none⟩) n c, .int .i64 m] w fun e w' => e = .returned (.int .i64 (boundV xs n m)) ∧ w = w' := by
  obtain ⟨n1, n2, hx⟩ := timesB_of ht
  obtain ⟨m1, m2⟩ := inB_lo hm
  have hb := sumK_bd xs 10000 (fun x h => ⟨by have := hx x h; omega, (hx x h).2⟩) n (by omega)
  obtain ⟨b0, b1⟩ := hb
  have b2 : sumK xs n ≤ 240000 := by omega
  have hm0 : (m == 0) = false := by simp; omega
  have HN := Lib.hid hn; have HC := Lib.hid hc; have HX := Lib.hid hx
  clear hn hc hx ht hm
  go_enter Try.func81, Try.ntmps81
  go_wp2_with (first
    | (go_at_call 90; refine (l02Greatest_any g 0 c n xs _ HN.out (by have := HN.out; omega) (by have := HN.out; omega) HC.out).mono ?_; rintro e w' ⟨rfl, rfl⟩)
    | (go_at_call 125; refine (l02Sum_any g 0 c n xs _ HN.out (by have := HN.out; omega) (fun x hx => ⟨by have := HX.out x hx; omega, by have := HX.out x hx; omega⟩) HC.out).mono ?_; rintro e w' ⟨rfl, rfl⟩)
    | (go_at_call 97; refine (l00Max_any _ _ _).mono ?_; rintro e w' ⟨rfl, rfl⟩))
  go_ret
  exact ⟨rfl, rfl⟩

theorem specLastBound_any (g c n : Nat) (xs : List Int) (m : Int) (w : World) (hn : xs.length = n) (hl : n ≤ 1048576) (hc : Rd w g 0 xs) :
    Calls Try.prog 33 #[.slice (some ⟨g, 0, none⟩) n c, .int .i64 m] w fun e w' => e = .returned (boundR xs n m) ∧ w = w' := by
  have HN := Lib.hid hn; have HC := Lib.hid hc
  clear hn hc
  cases ht : timesB xs
  · have e : boundR xs n m = .tuple #[.int .i64 0, .bool false] := by rw [boundR, ht]; rfl
    have E := Lib.hid e; clear e
    go_enter Try.func33, Try.ntmps33
    go_wp2_with (first
      | (go_at_call 79; refine (l02Times_any _ n c xs _ HN.out hl HC.out.at').mono ?_; rintro e w' ⟨rfl, rfl⟩))
    go_ret2
    exact ⟨ret_val E.out.symm, rfl⟩
  · cases hm : machB m
    · have e : boundR xs n m = .tuple #[.int .i64 0, .bool false] := by rw [boundR, ht, hm]; rfl
      have E := Lib.hid e; clear e
      go_enter Try.func33, Try.ntmps33
      go_wp2_with (first
        | (go_at_call 79; refine (l02Times_any _ n c xs _ HN.out hl HC.out.at').mono ?_; rintro e w' ⟨rfl, rfl⟩)
        | (go_at_call 80; refine (l02Machines_any _ _).mono ?_; rintro e w' ⟨rfl, rfl⟩))
      go_ret2
      exact ⟨ret_val E.out.symm, rfl⟩
    · have e : boundR xs n m = .tuple #[.int .i64 (boundV xs n m), .bool true] := by rw [boundR, ht, hm]; rfl
      have E := Lib.hid e; clear e
      go_enter Try.func33, Try.ntmps33
      go_wp2_with (first
        | (go_at_call 79; refine (l02Times_any _ n c xs _ HN.out hl HC.out.at').mono ?_; rintro e w' ⟨rfl, rfl⟩)
        | (go_at_call 80; refine (l02Machines_any _ _).mono ?_; rintro e w' ⟨rfl, rfl⟩)
        | (go_at_call 81; refine (l02Bound_any g c n xs m _ HN.out HC.out ht hm).mono ?_; rintro e w' ⟨rfl, rfl⟩))
      go_ret2
      exact ⟨ret_val E.out.symm, rfl⟩

theorem implLastBound_any (g c n : Nat) (xs : List Int) (m : Int) (w : World) (hn : xs.length = n) (hl : n ≤ 1048576) (hc : Rd w g 0 xs) :
    Calls Try.prog 34 #[.slice (some ⟨g, 0, none⟩) n c, .int .i64 m] w fun e w' => e = .returned (boundR xs n m) ∧ w = w' := by
  have HN := Lib.hid hn; have HC := Lib.hid hc
  clear hn hc
  cases ht : timesB xs
  · have e : boundR xs n m = .tuple #[.int .i64 0, .bool false] := by rw [boundR, ht]; rfl
    have E := Lib.hid e; clear e
    go_enter Try.func34, Try.ntmps34
    go_wp2_with (first
      | (go_at_call 82; refine (areTimes_any _ n c xs _ HN.out hl HC.out.at').mono ?_; rintro e w' ⟨rfl, rfl⟩))
    go_ret2
    exact ⟨ret_val E.out.symm, rfl⟩
  · cases hm : machB m
    · have e : boundR xs n m = .tuple #[.int .i64 0, .bool false] := by rw [boundR, ht, hm]; rfl
      have E := Lib.hid e; clear e
      go_enter Try.func34, Try.ntmps34
      go_wp2_with (first
        | (go_at_call 82; refine (areTimes_any _ n c xs _ HN.out hl HC.out.at').mono ?_; rintro e w' ⟨rfl, rfl⟩)
        | (go_at_call 83; refine (areMachines_any _ _).mono ?_; rintro e w' ⟨rfl, rfl⟩))
      go_ret2
      exact ⟨ret_val E.out.symm, rfl⟩
    · have e : boundR xs n m = .tuple #[.int .i64 (boundV xs n m), .bool true] := by rw [boundR, ht, hm]; rfl
      have E := Lib.hid e; clear e
      obtain ⟨n1, n2, hx⟩ := timesB_of ht
      obtain ⟨m1, m2⟩ := inB_lo hm
      have hb := sumK_bd xs 10000 (fun x h => ⟨by have := hx x h; omega, (hx x h).2⟩) n (by have := HN.out; omega)
      obtain ⟨b0, b1⟩ := hb
      have b2 : sumK xs n ≤ 240000 := by have := HN.out; omega
      have HX := Lib.hid hx; clear hx
      go_enter Try.func34, Try.ntmps34
      go_wp2_with (first
        | (go_at_call 82; refine (areTimes_any _ n c xs _ HN.out hl HC.out.at').mono ?_; rintro e w' ⟨rfl, rfl⟩)
        | (go_at_call 83; refine (areMachines_any _ _).mono ?_; rintro e w' ⟨rfl, rfl⟩)
        | (go_at_call 84; refine (slicesMax_any g 0 c n xs _ HN.out hl (by have := HN.out; omega) HC.out).mono ?_; rintro e w' ⟨rfl, rfl⟩)
        | (go_at_call 86; refine (sumOf_any g 0 c n xs _ HN.out (by have := HN.out; omega) (fun x hx => ⟨by have := HX.out x hx; omega, by have := HX.out x hx; omega⟩) HC.out).mono ?_; rintro e w' ⟨rfl, rfl⟩)
        | (go_at_call 85; refine (upward_any _ _ _ b0 (by omega) m1 m2).mono ?_; rintro e w' ⟨rfl, rfl⟩))
      all_goals
        go_ret2
        exact ⟨ret_val (by rw [E.out, boundV, ← ite_max]; first | rw [if_pos (by omega)]; rfl | rw [if_neg (by omega)]; rfl), rfl⟩

theorem boundR_form (xs : List Int) (n : Nat) (m : Int) : ∃ x b, boundR xs n m = .tuple #[.int .i64 x, .bool b] := by
  unfold boundR; split
  · exact ⟨_, _, rfl⟩
  · exact ⟨_, _, rfl⟩

set_option maxHeartbeats 1000000 in
theorem lastBound_walk (a0 : Option Addr) (len0 cap0 : Nat) (z0 : List Int) (a1 : Int) (w : World) (w0 : IsRow .i64 w a0 len0 cap0 z0) (_ : (Lit.int .i64 a1).wf = true) :
    Calls Try.prog 6 #[.slice a0 len0 cap0, .int .i64 a1] w fun e w' => e = .returned (.bool true) ∧ Below w.heap.size w w' := by
  have hlz := w0.len
  have W0 := Lib.hid w0; clear w0
  by_cases h : len0 ≤ 1048576
  · have hlen := take_len hlz
    have HL := Lib.hid hlen; clear hlen
    obtain ⟨bx, bb, hbf⟩ := boundR_form (z0.take len0) len0 a1
    have HBF := Lib.hid hbf; clear hbf
    go_enter Try.func6, Try.ntmps6
    go_wp2_with fail
    go_at_call 23
    refine (toInt64S_any a0 len0 cap0 z0 _ W0.out h).mono ?_
    rintro e w1 ⟨g1, rfl, hr1, hg1, hb1⟩
    rw [HL.out] at hr1 ⊢
    have R1 := Lib.hid hr1; have B1 := Lib.hid hb1; clear hr1 hb1
    go_wp2_with fail
    go_at_call 33
    refine (specLastBound_any g1 len0 len0 (z0.take len0) a1 _ HL.out h R1.out.rd).mono ?_
    rintro e w2 ⟨rfl, rfl⟩
    rw [HBF.out]
    go_wp2_with fail
    go_at_call 23
    refine (toInt64S_any a0 len0 cap0 z0 _ (W0.out.below B1.out) h).mono ?_
    rintro e w3 ⟨g3, rfl, hr3, hg3, hb3⟩
    rw [HL.out] at hr3 ⊢
    have R3 := Lib.hid hr3; have B3 := Lib.hid (B1.out.trans (hb3.mono B1.out.size)); clear hr3 hb3
    go_wp2_with fail
    go_at_call 34
    refine (implLastBound_any g3 len0 len0 (z0.take len0) a1 _ HL.out h R3.out.rd).mono ?_
    rintro e w4 ⟨rfl, rfl⟩
    rw [HBF.out]
    go_wp2_with fail
    go_at_call 23
    refine (toInt64S_any a0 len0 cap0 z0 _ (W0.out.below B3.out) h).mono ?_
    rintro e w5 ⟨g5, rfl, hr5, hg5, hb5⟩
    rw [HL.out] at hr5 ⊢
    have R5 := Lib.hid hr5; have R35 := Lib.hid (R3.out.below hb5 R3.out.lt)
    have B5 := Lib.hid (B3.out.trans (hb5.mono B3.out.size)); clear hr5 hb5
    go_wp2_with fail
    go_at_call 25
    refine (eqInt64S_any _ _ len0 len0 len0 len0 (z0.take len0) (z0.take len0) _ HL.out HL.out R35.out.at' R5.out.at' h h).mono ?_
    rintro e w6 ⟨rfl, hd6⟩
    rw [eqB_self]
    go_wp2
    go_ret
    exact ⟨rfl, B5.out.trans hd6.below⟩
  · go_enter Try.func6, Try.ntmps6
    go_wp2
    go_ret
    exact ⟨rfl, .refl _ _⟩
end Go.Proofs.Ytncmhinpjkkfkaa
