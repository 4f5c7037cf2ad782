/-
  Walks over lists of integers: bounds, look-ups, equality. Conditions: none.
-/
import Derived.Test.YtncmhinpjkkfkaaRows
import Derived.Test.YtncmhinpjkkfkaaMem
import Derived.WalkKit
import Derived.WalkLawsBesides
import Derived.WalkSpells
import Derived.Lib.Hide
import Derived.LoopTactic
import Derived.Outline
import Derived.Deep.Draws
import Derived.Deep.QuietTactic
import Derived.BigQuiet
import Derived.IntWalk
set_option linter.unusedVariables false
set_option linter.unusedSimpArgs false
namespace Go.Proofs.Ytncmhinpjkkfkaa
open Go Go.RowKit

/-- n from low to high. -/
def inB (n lo hi : Int) : Bool := decide (lo ≤ n) && decide (n ≤ hi)

theorem l00In_any (n lo hi : Int) (w : World) : Calls Try.prog 69 #[.int .i64 n, .int .i64 lo, .int .i64 hi] w fun e w' => e = .returned (.bool (inB n lo hi)) ∧ w = w' := by
  by_cases h1 : lo ≤ n
  · by_cases h2 : n ≤ hi
    · go_enter Try.func69, Try.ntmps69
      go_wp2
      go_ret
      exact ⟨ret_bool (by simp [inB]; omega), rfl⟩
    · go_enter Try.func69, Try.ntmps69
      go_wp2
      go_ret
      exact ⟨ret_bool (by simp [inB]; omega), rfl⟩
  · go_enter Try.func69, Try.ntmps69
    go_wp2
    go_ret
    exact ⟨ret_bool (by simp [inB]; omega), rfl⟩

theorem within_any (n lo hi : Int) (w : World) : Calls Try.prog 71 #[.int .i64 n, .int .i64 lo, .int .i64 hi] w fun e w' => e = .returned (.bool (inB n lo hi)) ∧ w = w' := by
  by_cases h1 : lo ≤ n
  · by_cases h2 : n ≤ hi
    · go_enter Try.func71, Try.ntmps71
      go_wp2
      go_ret
      exact ⟨ret_bool (by simp [inB]; omega), rfl⟩
    · go_enter Try.func71, Try.ntmps71
      go_wp2
      go_ret
      exact ⟨ret_bool (by simp [inB]; omega), rfl⟩
  · go_enter Try.func71, Try.ntmps71
    go_wp2
    go_ret
    exact ⟨ret_bool (by simp [inB]; omega), rfl⟩

def hasB (xs : List Int) (x : Int) : Bool := xs.any (· == x)

theorem hasB_snoc (xs : List Int) (k : Nat) (x : Int) (h : k < xs.length) : hasB (xs.take (k + 1)) x = (hasB (xs.take k) x || xs[k] == x) := by
  unfold hasB
  rw [List.take_succ_eq_append_getElem h, List.any_append]
  simp

theorem l02Has_any (g o n c : Nat) (xs : List Int) (x : Int) (w : World) (hn : xs.length = n) (hm : n ≤ 9223372036854775807) (hc : Rd w g o xs) :
    Calls Try.prog 123 #[.slice (some ⟨g, o, none⟩) n c, .int .i64 x] w fun e w' => e = .returned (.bool (hasB xs x)) ∧ Dr w w' := by
  subst hn
  go_enter Try.func123, Try.ntmps123
  go_wp2
  go_loop [5] (fun i => ∃ k : Nat, k ≤ xs.length ∧ i = .int .i64 k ∧ hasB (xs.take k) x = false) (fun i => xs.length - (intOf i).toNat)
  case atStart => exact ⟨0, Nat.zero_le _, rfl, by simp [hasB]⟩
  case round =>
    obtain ⟨k, hk, rfl, hno⟩ := hrel
    by_cases hlt : k < xs.length
    · have hcell := hc k hlt
      have hs := hasB_snoc xs k x hlt
      rw [hno, Bool.false_or] at hs
      have hs' : hasB xs x = (hasB (xs.take (k + 1)) x || hasB (xs.drop (k + 1)) x) := by
        unfold hasB; rw [← List.any_append, List.take_append_drop]
      have H1 := Lib.hid hs; have H2 := Lib.hid hs'; have H3 := Lib.hid hc
      clear hs hs' hno hc
      by_cases hx : (xs[k] == x) = true
      · go_wp2
        go_ret
        exact ⟨ret_bool (by rw [H2.out, H1.out, hx]; rfl), .refl _⟩
      · rw [Bool.not_eq_true] at hx
        go_wp2
        go_round
        case rel => exact ⟨k + 1, by omega, by go_num, by rw [H1.out, hx]⟩
        case measure => simp [intOf]; omega
    · obtain rfl : k = xs.length := by omega
      rw [List.take_length] at hno
      have H := Lib.hid hno; clear hno
      go_wp2
      go_ret
      exact ⟨ret_bool H.out.symm, .refl _⟩

/-- The first k of a list are each in range, and none of them stands twice. -/
def ordB (xs : List Int) (n : Int) (k : Nat) : Bool := (List.range k).all fun j => inB (xs.getD j 0) 0 (n - 1) && !hasB (xs.take j) (xs.getD j 0)

theorem ordB_succ (xs : List Int) (n : Int) (k : Nat) (h : k < xs.length) : ordB xs n (k + 1) = (ordB xs n k && (inB xs[k] 0 (n - 1) && !hasB (xs.take k) xs[k])) := by
  unfold ordB
  rw [List.range_succ, List.all_append]
  simp [List.getElem?_eq_getElem h]

theorem ordB_mono (xs : List Int) (n : Int) (k m : Nat) (h : k ≤ m) (hf : ordB xs n k = false) : ordB xs n m = false := by
  unfold ordB at *
  rw [List.all_eq_false] at *
  obtain ⟨x, hx, hp⟩ := hf
  exact ⟨x, by simp only [List.mem_range] at *; omega, hp⟩

set_option maxHeartbeats 1000000 in
theorem l02Orders_any (g c : Nat) (xs : List Int) (n : Int) (w : World) (hcap : xs.length ≤ c) (hm : xs.length ≤ 1048576) (hn0 : 0 ≤ n) (hn1 : n ≤ 1048576) (hc : Rd w g 0 xs) :
    Calls Try.prog 70 #[.slice (some ⟨g, 0, none⟩) xs.length c, .int .i64 n] w fun e w' => e = .returned (.bool (ordB xs n xs.length && decide ((xs.length : Int) = n))) ∧ Dr w w' := by
  go_enter Try.func70, Try.ntmps70
  go_wp2
  go_loopw [5] (fun i wr => ∃ k : Nat, k ≤ xs.length ∧ i = .int .i64 k ∧ ordB xs n k = true ∧ Rd wr g 0 xs ∧ Dr w wr) (fun i _ => xs.length - (intOf i).toNat)
  case atStart => exact ⟨0, Nat.zero_le _, rfl, by simp [ordB], hc, .refl _⟩
  case round =>
    obtain ⟨k, hk, rfl, hno, hcr, hd⟩ := hrel
    have HD := Lib.hid hd; have HO := Lib.hid hno; have HC := Lib.hid hcr
    clear hd hno hc
    by_cases hlt : k < xs.length
    · have hcell := hcr k hlt
      rw [Nat.zero_add] at hcell
      have hs := ordB_succ xs n k hlt
      rw [HO.out, Bool.true_and] at hs
      have hmono := ordB_mono xs n (k + 1) xs.length (by omega)
      have HS := Lib.hid hs; have HM := Lib.hid hmono
      have hrt : Rd wr g 0 (xs.take k) := fun j hj => by
        have : j < k := by simp at hj; omega
        rw [hcr j (by omega)]; simp
      have HT := Lib.hid hrt
      have hlen : (xs.take k).length = k := by simp; omega
      have HL := Lib.hid hlen
      clear hs hmono hcr hrt hlen
      have hwr : IntKind.i64.wrap (n - 1) = n - 1 := IntWalk.i64_in _ (by omega)
      by_cases h1 : inB xs[k] 0 (n - 1) = true
      · go_wp2
        go_quiet ((first | (go_at_call 69; exact quiet_eq (l00In_any _ _ _ _)) | (go_at_call 123; exact quiet_dr (l02Has_any g 0 k _ (xs.take k) _ _ HL.out (by omega) HT.out))))
        go_wp2
        · have hx : hasB (xs.take k) xs[k] = true := by assumption
          go_ret
          exact ⟨ret_bool (by rw [HM.out (by rw [HS.out, h1, hx]; rfl), Bool.false_and]), HD.out.drewN _⟩
        · have hx : hasB (xs.take k) xs[k] = false := by assumption
          have hs : ordB xs n (k + 1) = true := by rw [HS.out, h1, hx]; rfl
          have H2 := Lib.hid hs; clear hs
          go_roundw
          case rel => exact ⟨k + 1, by omega, by go_num, H2.out, HC.out, HD.out.drewN _⟩
          case measure => simp [intOf]; omega
      · rw [Bool.not_eq_true] at h1
        go_wp2
        go_quiet ((first | (go_at_call 69; exact quiet_eq (l00In_any _ _ _ _)) | (go_at_call 123; exact quiet_dr (l02Has_any g 0 k _ (xs.take k) _ _ HL.out (by omega) HT.out))))
        go_wp2
        go_ret
        exact ⟨ret_bool (by rw [HM.out (by rw [HS.out, h1]; rfl), Bool.false_and]), HD.out.drewN _⟩
    · obtain rfl : k = xs.length := by omega
      go_wp2
      go_ret
      exact ⟨ret_bool (by rw [HO.out, Bool.true_and]; rw [Bool.eq_iff_iff]; simp), HD.out⟩
end Go.Proofs.Ytncmhinpjkkfkaa
