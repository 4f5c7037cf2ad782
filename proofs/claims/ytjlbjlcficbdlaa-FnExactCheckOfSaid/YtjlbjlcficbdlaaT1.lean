/-
  Walks: the laws IsName and CheckOf. Conditions: none.
-/
import Derived.Test.YtjlbjlcficbdlaaRows
import Derived.Test.YtjlbjlcficbdlaaMem
import Derived.LoopTactic
import Derived.Outline
import Derived.IntWalk
namespace Go.Proofs.Ytjlbjlcficbdlaa
open Go Go.RowKit

def letB (c : UInt8) : Bool := decide (97 ≤ c.toNat ∧ c.toNat ≤ 122)
def goodK (s : ByteArray) (k : Nat) : Bool := (s.data.toList.take k).all letB
def nameB (s : ByteArray) : Bool := goodK s s.size && (decide (1 ≤ s.size) && decide (s.size ≤ 8))

theorem goodK_succ (s : ByteArray) (k : Nat) (h : k < s.size) : goodK s (k + 1) = (goodK s k && letB s[k]) := by
  unfold goodK
  rw [List.take_succ_eq_append_getElem (by simpa using h), List.all_append]
  simp
  rfl

theorem goodK_false (s : ByteArray) (k : Nat) (hk : k ≤ s.size) (h : goodK s k = false) : nameB s = false := by
  have h1 : goodK s s.size = false := by
    unfold goodK at *
    rw [List.all_eq_false] at *
    obtain ⟨x, hx, hp⟩ := h
    exact ⟨x, List.mem_of_mem_take (by rw [show List.take k s.data.toList = List.take k (List.take s.size s.data.toList) by rw [List.take_take, Nat.min_eq_left hk]] at hx; exact hx), hp⟩
  rw [nameB, h1, Bool.false_and]

set_option maxHeartbeats 1000000 in
theorem specIsName_any (s : ByteArray) (w : World) (hs : s.size ≤ 1048576) :
    Calls Try.prog 5 #[.string s] w fun e w' => e = .returned (.bool (nameB s)) ∧ w = w' := by
  go_enter Try.func5, Try.ntmps5
  go_wp2
  go_loop [3] (fun i => ∃ k : Nat, k ≤ s.size ∧ i = .int .i64 k ∧ goodK s k = true) (fun i => s.size - (intOf i).toNat)
  case atStart => exact ⟨0, Nat.zero_le _, rfl, by simp [goodK]⟩
  case round =>
    obtain ⟨k, hk, rfl, hg⟩ := hrel
    have HG := Lib.hid hg; clear hg
    by_cases hlt : k < s.size
    · have hs1 := goodK_succ s k hlt
      rw [HG.out, Bool.true_and] at hs1
      have hs2 := goodK_false s (k + 1) (by omega)
      have H1 := Lib.hid hs1; have H2 := Lib.hid hs2; clear hs1 hs2
      by_cases h1 : (s[k].toNat : Int) < 97
      · go_wp2
        go_ret
        exact ⟨ret_bool (H2.out (by rw [H1.out]; unfold letB; exact decide_eq_false (by omega))).symm, rfl⟩
      · by_cases h2 : (122 : Int) < (s[k].toNat : Int)
        · go_wp2
          go_ret
          exact ⟨ret_bool (H2.out (by rw [H1.out]; unfold letB; exact decide_eq_false (by omega))).symm, rfl⟩
        · have h3 : letB s[k] = true := by unfold letB; exact decide_eq_true (by omega)
          have H3 := Lib.hid h3; clear h3
          go_wp2
          go_round
          case rel => exact ⟨k + 1, by omega, by go_num, by rw [H1.out, H3.out]⟩
          case measure => simp [intOf]; omega
    · obtain rfl : k = s.size := by omega
      by_cases h1 : 1 ≤ s.size
      · by_cases h2 : s.size ≤ 8
        · go_wp2
          go_ret
          exact ⟨ret_bool (by rw [nameB, HG.out, decide_eq_true (show 1 ≤ s.size by omega), decide_eq_true (show s.size ≤ 8 by omega)]; first | rfl | (simp; omega)), rfl⟩
        · go_wp2
          go_ret
          exact ⟨ret_bool (by rw [nameB, HG.out, decide_eq_true (show 1 ≤ s.size by omega), decide_eq_false (show ¬ s.size ≤ 8 by omega)]; first | rfl | (simp; omega)), rfl⟩
      · go_wp2
        go_ret
        exact ⟨ret_bool (by rw [nameB, HG.out, decide_eq_false (show ¬ 1 ≤ s.size by omega)]; rfl), rfl⟩

set_option maxHeartbeats 1000000 in
theorem implIsName_any (s : ByteArray) (w : World) (hs : s.size ≤ 1048576) :
    Calls Try.prog 6 #[.string s] w fun e w' => e = .returned (.bool (nameB s)) ∧ w = w' := by
  go_enter Try.func6, Try.ntmps6
  go_wp2
  go_loop [3, 6] (fun _ i => ∃ k : Nat, k ≤ s.size ∧ i = .int .i64 k ∧ goodK s k = true) (fun _ i => s.size - (intOf i).toNat)
  case atStart => exact ⟨0, Nat.zero_le _, rfl, by simp [goodK]⟩
  case round =>
    obtain ⟨k, hk, rfl, hg⟩ := hrel
    have HG := Lib.hid hg; clear hg
    by_cases hlt : k < s.size
    · have hs1 := goodK_succ s k hlt
      rw [HG.out, Bool.true_and] at hs1
      have hs2 := goodK_false s (k + 1) (by omega)
      have H1 := Lib.hid hs1; have H2 := Lib.hid hs2; clear hs1 hs2
      by_cases h1 : (s[k].toNat : Int) < 97
      · go_wp2
        go_ret
        exact ⟨ret_bool (H2.out (by rw [H1.out]; unfold letB; exact decide_eq_false (by omega))).symm, rfl⟩
      · by_cases h2 : (122 : Int) < (s[k].toNat : Int)
        · go_wp2
          go_ret
          exact ⟨ret_bool (H2.out (by rw [H1.out]; unfold letB; exact decide_eq_false (by omega))).symm, rfl⟩
        · have h3 : letB s[k] = true := by unfold letB; exact decide_eq_true (by omega)
          have H3 := Lib.hid h3; clear h3
          go_wp2
          go_round
          case rel => exact ⟨k + 1, by omega, by go_num, by rw [H1.out, H3.out]⟩
          case measure => simp [intOf]; omega
    · obtain rfl : k = s.size := by omega
      by_cases h1 : 1 ≤ s.size
      · by_cases h2 : s.size ≤ 8
        · go_wp2
          go_ret
          exact ⟨ret_bool (by rw [nameB, HG.out, decide_eq_true (show 1 ≤ s.size by omega), decide_eq_true (show s.size ≤ 8 by omega)]; first | rfl | (simp; omega)), rfl⟩
        · go_wp2
          go_ret
          exact ⟨ret_bool (by rw [nameB, HG.out, decide_eq_true (show 1 ≤ s.size by omega), decide_eq_false (show ¬ s.size ≤ 8 by omega)]; first | rfl | (simp; omega)), rfl⟩
      · go_wp2
        go_ret
        exact ⟨ret_bool (by rw [nameB, HG.out, decide_eq_false (show ¬ 1 ≤ s.size by omega)]; rfl), rfl⟩

theorem isName_walk (s : ByteArray) (w : World) (_ : s.size ≤ maxLen) : Calls Try.prog 3 #[.string s] w fun e w' => e = .returned (.bool true) ∧ Below w.heap.size w w' := by
  by_cases h : s.size ≤ 1048576
  · go_enter Try.func3, Try.ntmps3
    go_wp2_with (first | (go_at_call 5; refine (specIsName_any s _ h).mono ?_; rintro e w' ⟨rfl, rfl⟩) | (go_at_call 6; refine (implIsName_any s _ h).mono ?_; rintro e w' ⟨rfl, rfl⟩))
    go_ret
    exact ⟨rfl, .refl _ _⟩
  · go_enter Try.func3, Try.ntmps3
    go_wp2
    go_ret
    exact ⟨rfl, .refl _ _⟩

def inB (n lo hi : Int) : Bool := decide (lo ≤ n) && decide (n ≤ hi)

theorem l00In_any (n lo hi : Int) (w : World) : Calls Try.prog 9 #[.int .i64 n, .int .i64 lo, .int .i64 hi] w fun e w' => e = .returned (.bool (inB n lo hi)) ∧ w = w' := by
  by_cases h1 : lo ≤ n
  · by_cases h2 : n ≤ hi
    · go_enter Try.func9, Try.ntmps9
      go_wp2
      go_ret
      exact ⟨ret_bool (by simp [inB]; omega), rfl⟩
    · go_enter Try.func9, Try.ntmps9
      go_wp2
      go_ret
      exact ⟨ret_bool (by simp [inB]; omega), rfl⟩
  · go_enter Try.func9, Try.ntmps9
    go_wp2
    go_ret
    exact ⟨ret_bool (by simp [inB]; omega), rfl⟩

theorem within_any (n lo hi : Int) (w : World) : Calls Try.prog 11 #[.int .i64 n, .int .i64 lo, .int .i64 hi] w fun e w' => e = .returned (.bool (inB n lo hi)) ∧ w = w' := by
  by_cases h1 : lo ≤ n
  · by_cases h2 : n ≤ hi
    · go_enter Try.func11, Try.ntmps11
      go_wp2
      go_ret
      exact ⟨ret_bool (by simp [inB]; omega), rfl⟩
    · go_enter Try.func11, Try.ntmps11
      go_wp2
      go_ret
      exact ⟨ret_bool (by simp [inB]; omega), rfl⟩
  · go_enter Try.func11, Try.ntmps11
    go_wp2
    go_ret
    exact ⟨ret_bool (by simp [inB]; omega), rfl⟩

theorem inB_lo {n lo hi : Int} (h : inB n lo hi = true) : lo ≤ n ∧ n ≤ hi := by simpa [inB] using h

/-- The check number behind k bytes. -/
def chk (n0 : Int) (s : ByteArray) : Nat → Int
  | 0 => n0
  | k + 1 => if h : k < s.size then (967 * chk n0 s k + (s[k].toNat : Int) + 227) % 65003 else chk n0 s k

theorem chk_bd (s : ByteArray) (n0 : Int) (b0 : 0 ≤ n0) (b1 : n0 ≤ 65002) : ∀ k, 0 ≤ chk n0 s k ∧ chk n0 s k ≤ 65002 := by
  intro k
  induction k with
  | zero => exact ⟨b0, b1⟩
  | succ k ih =>
    rw [chk]
    split
    · omega
    · exact ih

def checkV (n : Int) (s : ByteArray) : Value := if inB n 0 65002 then .tuple #[.int .i64 (chk n s s.size), .bool true] else .tuple #[.int .i64 0, .bool false]

set_option maxHeartbeats 1000000 in
theorem l01Check_any (n0 : Int) (s : ByteArray) (w : World) (hs : s.size ≤ 1048576) (b0 : 0 ≤ n0) (b1 : n0 ≤ 65002) :
    Calls Try.prog 10 #[.int .i64 n0, .string s] w fun e w' => e = .returned (.int .i64 (chk n0 s s.size)) ∧ w = w' := by
    go_enter Try.func10, Try.ntmps10
    go_wp2

    go_loop [0, 5] (fun n i => ∃ k : Nat, k ≤ s.size ∧ i = .int .i64 k ∧ n = .int .i64 (chk n0 s k)) (fun _ i => s.size - (intOf i).toNat)
    case atStart => exact ⟨0, Nat.zero_le _, rfl, rfl⟩
    case round =>
      obtain ⟨k, hk, rfl, rfl⟩ := hrel
      have hb := chk_bd s n0 b0 b1 k
      obtain ⟨hb0, hb1⟩ := hb
      by_cases hlt : k < s.size
      · have hby : (s[k].toNat : Int) < 256 := by have := s[k].toNat_lt; omega
        have hsn : chk n0 s (k + 1) = (967 * chk n0 s k + (s[k].toNat : Int) + 227) % 65003 := by
          rw [chk, dif_pos hlt]
        have HS := Lib.hid hsn; clear hsn
        go_wp2
        go_round
        case rel => exact ⟨k + 1, by omega, by go_num, by rw [HS.out]⟩
        case measure => simp [intOf]; omega
      · obtain rfl : k = s.size := by omega
        go_wp2
        go_ret
        exact ⟨rfl, rfl⟩

theorem ret_val {a b : Value} (h : a = b) : Ending.returned a = .returned b := by rw [h]

theorem specCheckOf_any (n : Int) (s : ByteArray) (w : World) (hs : s.size ≤ 1048576) :
    Calls Try.prog 7 #[.int .i64 n, .string s] w fun e w' => e = .returned (checkV n s) ∧ w = w' := by
  by_cases h : inB n 0 65002 = true
  · obtain ⟨b0, b1⟩ := inB_lo h
    have e : checkV n s = .tuple #[.int .i64 (chk n s s.size), .bool true] := by rw [checkV, if_pos h]
    have E := Lib.hid e; clear e
    go_enter Try.func7, Try.ntmps7
    go_wp2_with (first | (go_at_call 9; refine (l00In_any _ _ _ _).mono ?_; rintro e w' ⟨rfl, rfl⟩) | (go_at_call 10; refine (l01Check_any n s _ hs b0 b1).mono ?_; rintro e w' ⟨rfl, rfl⟩))
    go_ret2
    exact ⟨ret_val E.out.symm, rfl⟩
  · have e : checkV n s = .tuple #[.int .i64 0, .bool false] := by rw [checkV, if_neg h]
    rw [Bool.not_eq_true] at h
    have E := Lib.hid e; clear e
    go_enter Try.func7, Try.ntmps7
    go_wp2_with (first | (go_at_call 9; refine (l00In_any _ _ _ _).mono ?_; rintro e w' ⟨rfl, rfl⟩))
    go_ret2
    exact ⟨ret_val E.out.symm, rfl⟩

set_option maxHeartbeats 1000000 in
theorem implCheckOf_any (n0 : Int) (s : ByteArray) (w : World) (hs : s.size ≤ 1048576) :
    Calls Try.prog 8 #[.int .i64 n0, .string s] w fun e w' => e = .returned (checkV n0 s) ∧ w = w' := by
  by_cases h : inB n0 0 65002 = true
  · obtain ⟨b0, b1⟩ := inB_lo h
    have e : checkV n0 s = .tuple #[.int .i64 (chk n0 s s.size), .bool true] := by rw [checkV, if_pos h]
    have E := Lib.hid e; clear e
    go_enter Try.func8, Try.ntmps8
    go_wp2_with (first | (go_at_call 11; refine (within_any _ _ _ _).mono ?_; rintro e w' ⟨rfl, rfl⟩))

    go_loop [0, 6, 12] (fun n _ i => ∃ k : Nat, k ≤ s.size ∧ i = .int .i64 k ∧ n = .int .i64 (chk n0 s k)) (fun _ _ i => s.size - (intOf i).toNat)
    case atStart => exact ⟨0, Nat.zero_le _, rfl, rfl⟩
    case round =>
      obtain ⟨k, hk, rfl, rfl⟩ := hrel
      have hb := chk_bd s n0 b0 b1 k
      obtain ⟨hb0, hb1⟩ := hb
      by_cases hlt : k < s.size
      · have hby : (s[k].toNat : Int) < 256 := by have := s[k].toNat_lt; omega
        have hsn : chk n0 s (k + 1) = (967 * chk n0 s k + (s[k].toNat : Int) + 227) % 65003 := by
          rw [chk, dif_pos hlt]
        have HS := Lib.hid hsn; clear hsn
        go_wp2
        go_round
        case rel => exact ⟨k + 1, by omega, by go_num, by rw [HS.out]⟩
        case measure => simp [intOf]; omega
      · obtain rfl : k = s.size := by omega
        go_wp2
        go_ret2
        exact ⟨ret_val E.out.symm, rfl⟩
  · have e : checkV n0 s = .tuple #[.int .i64 0, .bool false] := by rw [checkV, if_neg h]
    rw [Bool.not_eq_true] at h
    have E := Lib.hid e; clear e
    go_enter Try.func8, Try.ntmps8
    go_wp2_with (first | (go_at_call 11; refine (within_any _ _ _ _).mono ?_; rintro e w' ⟨rfl, rfl⟩))
    go_ret2
    exact ⟨ret_val E.out.symm, rfl⟩

theorem checkOf_walk (n : Int) (s : ByteArray) (w : World) (_ : (Lit.int .i64 n).wf = true) (_ : s.size ≤ maxLen) : Calls Try.prog 4 #[.int .i64 n, .string s] w fun e w' => e = .returned (.bool true) ∧ Below w.heap.size w w' := by
  by_cases h : s.size ≤ 1048576
  · by_cases hb : inB n 0 65002 = true
    · have e : checkV n s = .tuple #[.int .i64 (chk n s s.size), .bool true] := by rw [checkV, if_pos hb]
      go_enter Try.func4, Try.ntmps4
      go_wp2_with (first | (go_at_call 7; refine (specCheckOf_any n s _ h).mono ?_; rintro e w' ⟨rfl, rfl⟩) | (go_at_call 8; refine (implCheckOf_any n s _ h).mono ?_; rintro e w' ⟨rfl, rfl⟩))
      go_ret
      exact ⟨rfl, .refl _ _⟩
    · have e : checkV n s = .tuple #[.int .i64 0, .bool false] := by rw [checkV, if_neg hb]
      go_enter Try.func4, Try.ntmps4
      go_wp2_with (first | (go_at_call 7; refine (specCheckOf_any n s _ h).mono ?_; rintro e w' ⟨rfl, rfl⟩) | (go_at_call 8; refine (implCheckOf_any n s _ h).mono ?_; rintro e w' ⟨rfl, rfl⟩))
      go_ret
      exact ⟨rfl, .refl _ _⟩
  · go_enter Try.func4, Try.ntmps4
    go_wp2
    go_ret
    exact ⟨rfl, .refl _ _⟩
end Go.Proofs.Ytjlbjlcficbdlaa
