/-
  Walks: the law ChangeCost. Conditions: none.
-/
import Derived.Test.YtncmhinpjkkfkaaK14
set_option linter.unusedVariables false
set_option linter.unusedSimpArgs false
namespace Go.Proofs.Ytncmhinpjkkfkaa
open Go Go.RowKit

def chB (cs : List Int) (x : Int) : Bool := inB x 1 10 && (decide ((cs.length : Int) = x * x) && allIn cs 0 10000)

theorem sq_bd {x : Int} (h : inB x 1 10 = true) : 1 ≤ x * x ∧ x * x ≤ 100 := by
  obtain ⟨h0, h1⟩ := inB_lo h
  have : x = 1 ∨ x = 2 ∨ x = 3 ∨ x = 4 ∨ x = 5 ∨ x = 6 ∨ x = 7 ∨ x = 8 ∨ x = 9 ∨ x = 10 := by omega
  rcases this with rfl | rfl | rfl | rfl | rfl | rfl | rfl | rfl | rfl | rfl <;> decide

theorem l02Changes_any (w : World) (g n c : Nat) (cs : List Int) (hn : cs.length = n) (hm : n ≤ 1048576) (hc : Rd w g 0 cs) (x : Int) :
    Calls Try.prog 87 #[.slice (some ⟨g, 0, none⟩) n c, .int .i64 x] w fun e w' => e = .returned (.bool (chB cs x)) ∧ w = w' := by
  cases hx : inB x 1 10
  · have hb : chB cs x = false := by unfold chB; rw [hx]; rfl
    rw [hb]
    clear hn hc hb
    go_enter Try.func87, Try.ntmps87
    go_wp2_with (go_at_call 69; refine (l00In_any _ _ _ _).mono ?_; rintro e w' ⟨rfl, rfl⟩; rw [hx])
    go_ret
    exact ⟨rfl, rfl⟩
  obtain ⟨s0, s1⟩ := sq_bd hx
  have hw : IntKind.i64.wrap (x * x) = x * x := IntWalk.i64_in _ (by omega)
  generalize hy : x * x = y at *
  by_cases he : (n : Int) = y
  case neg =>
    have hb : chB cs x = false := by unfold chB; rw [hn, hy, decide_eq_false he]; simp
    rw [hb]
    clear hn hc hb
    go_enter Try.func87, Try.ntmps87
    go_wp2_with (go_at_call 69; refine (l00In_any _ _ _ _).mono ?_; rintro e w' ⟨rfl, rfl⟩; rw [hx])
    go_ret
    exact ⟨rfl, rfl⟩
  have hb : chB cs x = allIn cs 0 10000 := by unfold chB; rw [hn, hy, hx, decide_eq_true he]; simp
  have HB := Lib.hid hb; have HN := Lib.hid hn; have HC := Lib.hid hc
  have m0 : 0 < n := by omega
  clear hb hn hc
  go_enter Try.func87, Try.ntmps87
  go_wp2_with (go_at_call 69; refine (l00In_any _ _ _ _).mono ?_; rintro e w' ⟨rfl, rfl⟩; rw [hx])
  go_loop [5] (fun i => ∃ k : Nat, k ≤ n ∧ i = .int .i64 k ∧ allIn (cs.take k) 0 10000 = true) (fun i => n - (intOf i).toNat)
  case atStart => exact ⟨0, Nat.zero_le _, rfl, by simp [allIn]⟩
  case round =>
    obtain ⟨k, hk, rfl, hno⟩ := hrel
    have HO := Lib.hid hno
    clear hno
    by_cases hlt : k < n
    · have hkx : k < cs.length := by have := HN.out; omega
      have hcell := HC.out k hkx
      rw [Nat.zero_add] at hcell
      have hs := allIn_succ cs 0 10000 k hkx
      rw [HO.out, Bool.true_and] at hs
      have hf := allIn_false cs 0 10000 (k + 1)
      have HS := Lib.hid hs; have HF := Lib.hid hf
      clear hs hf
      by_cases h1 : inB cs[k] 0 10000 = true
      · go_wp2_with (go_at_call 69; refine (l00In_any _ _ _ _).mono ?_; rintro e w' ⟨rfl, rfl⟩; rw [h1])
        go_round
        case rel => exact ⟨k + 1, by omega, by go_num, by rw [HS.out, h1]⟩
        case measure => simp [intOf]; omega
      · rw [Bool.not_eq_true] at h1
        go_wp2_with (go_at_call 69; refine (l00In_any _ _ _ _).mono ?_; rintro e w' ⟨rfl, rfl⟩; rw [h1])
        go_ret
        exact ⟨ret_bool (by rw [HB.out, HF.out (by rw [HS.out, h1])]), rfl⟩
    · have hfin : allIn cs 0 10000 = true := by
        have := HO.out; rw [List.take_of_length_le (by have := HN.out; omega)] at this; exact this
      have HF := Lib.hid hfin; clear hfin
      go_wp2
      go_ret
      exact ⟨ret_bool (by rw [HB.out, HF.out]), rfl⟩

theorem areCosts_any (w : World) (g n c : Nat) (cs : List Int) (hn : cs.length = n) (hm : n ≤ 1048576) (hc : Rd w g 0 cs) (x : Int) :
    Calls Try.prog 88 #[.slice (some ⟨g, 0, none⟩) n c, .int .i64 x] w fun e w' => e = .returned (.bool (chB cs x)) ∧ w = w' := by
  cases hx : inB x 1 10
  · have hb : chB cs x = false := by unfold chB; rw [hx]; rfl
    rw [hb]
    clear hn hc hb
    go_enter Try.func88, Try.ntmps88
    go_wp2_with (go_at_call 71; refine (within_any _ _ _ _).mono ?_; rintro e w' ⟨rfl, rfl⟩; rw [hx])
    go_ret
    exact ⟨rfl, rfl⟩
  obtain ⟨s0, s1⟩ := sq_bd hx
  have hw : IntKind.i64.wrap (x * x) = x * x := IntWalk.i64_in _ (by omega)
  generalize hy : x * x = y at *
  by_cases he : (n : Int) = y
  case neg =>
    have hb : chB cs x = false := by unfold chB; rw [hn, hy, decide_eq_false he]; simp
    rw [hb]
    clear hn hc hb
    go_enter Try.func88, Try.ntmps88
    go_wp2_with (go_at_call 71; refine (within_any _ _ _ _).mono ?_; rintro e w' ⟨rfl, rfl⟩; rw [hx])
    go_ret
    exact ⟨rfl, rfl⟩
  have hb : chB cs x = allIn cs 0 10000 := by unfold chB; rw [hn, hy, hx, decide_eq_true he]; simp
  have HB := Lib.hid hb; have HN := Lib.hid hn; have HC := Lib.hid hc
  clear hb hn hc
  go_enter Try.func88, Try.ntmps88
  go_wp2_with (first
    | (go_at_call 71; refine (within_any _ _ _ _).mono ?_; rintro e w' ⟨rfl, rfl⟩; rw [hx])
    | (go_at_call 78; refine (areWithin_any _ n c cs _ _ _ HN.out hm (.inr ⟨g, 0, rfl, HC.out⟩)).mono ?_; rintro e w' ⟨rfl, rfl⟩))
  go_ret
  exact ⟨ret_bool HB.out.symm, rfl⟩

def csAt (cs : List Int) (i : Int) : Int := cs.getD i.toNat 0
def ccK (os cs : List Int) (n : Int) : Nat → Int
  | 0 => csAt cs (eN os 0 * n + eN os 0)
  | k + 1 => ccK os cs n k + csAt cs (eN os k * n + eN os (k + 1))
def ccB (os cs : List Int) : Bool := chB cs os.length && ordB os os.length os.length
def ccV (os cs : List Int) : Int := if ccB os cs then ccK os cs os.length (os.length - 1) else 0

theorem csAt_eq {cs : List Int} {i : Int} (h0 : 0 ≤ i) (h : i < cs.length) : csAt cs i = cs[i.toNat]'(by omega) := by
  unfold csAt; rw [List.getD_eq_getElem?_getD, List.getElem?_eq_getElem (show i.toNat < cs.length by omega)]; rfl

/-- What a valid order and its costs give at one place. -/
theorem cc_at {os cs : List Int} (h : ccB os cs = true) : 1 ≤ os.length ∧ os.length ≤ 10 ∧ (cs.length : Int) = os.length * os.length ∧ (∀ i j (hi : i < os.length) (hj : j < os.length), 0 ≤ os[i] ∧ os[i] ≤ 9 ∧ 0 ≤ os[i] * os.length ∧ os[i] * os.length ≤ 90 ∧ 0 ≤ os[i] * os.length + os[j] ∧ os[i] * os.length + os[j] < cs.length ∧ 0 ≤ csAt cs (os[i] * os.length + os[j]) ∧ csAt cs (os[i] * os.length + os[j]) ≤ 10000) := by
  unfold ccB chB at h
  simp only [Bool.and_eq_true, decide_eq_true_eq] at h
  obtain ⟨⟨h1, h2, h3⟩, h4⟩ := h
  obtain ⟨n1, n2⟩ := inB_lo h1
  refine ⟨by omega, by omega, h2, fun i j hi hj => ?_⟩
  have a := ordB_at h4 i hi hi
  have b := ordB_at h4 j hj hj
  have p0 : 0 ≤ os[i] * os.length := Int.mul_nonneg a.1 (by omega)
  have p1 : os[i] * os.length ≤ (os.length - 1) * os.length := Int.mul_le_mul_of_nonneg_right (by omega) (by omega)
  rw [Int.sub_mul, Int.one_mul, ← h2] at p1
  have s := sq_bd h1
  rw [← h2] at s
  have q : os[i] * os.length + os[j] < cs.length := by omega
  have e := csAt_eq (cs := cs) (i := os[i] * os.length + os[j]) (by omega) q
  have m := allIn_mem h3 _ (List.getElem_mem (l := cs) (n := (os[i] * os.length + os[j]).toNat) (by omega))
  rw [← e] at m
  refine ⟨a.1, by omega, p0, ?_, by omega, q, m.1, m.2⟩
  have : os[i] * os.length ≤ 9 * os.length := Int.mul_le_mul_of_nonneg_right (by omega) (by omega)
  omega

theorem ccK_bd {os cs : List Int} (h : ccB os cs = true) : ∀ k, k < os.length → 0 ≤ ccK os cs os.length k ∧ ccK os cs os.length k ≤ 10000 * (k + 1) := by
  obtain ⟨n1, n2, h2, hat⟩ := cc_at h
  intro k
  induction k with
  | zero =>
    intro hk
    have := (hat 0 0 hk hk).2.2.2.2.2.2
    unfold ccK
    rw [eN_eq hk]; omega
  | succ k ih =>
    intro hk
    have h1 := ih (by omega)
    have := (hat k (k + 1) (by omega) hk).2.2.2.2.2.2
    unfold ccK
    rw [eN_eq hk, eN_eq (show k < os.length by omega)]; omega
end Go.Proofs.Ytncmhinpjkkfkaa
