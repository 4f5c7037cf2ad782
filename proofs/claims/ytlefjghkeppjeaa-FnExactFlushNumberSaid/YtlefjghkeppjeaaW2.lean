/-
  Walks of the small float laws that look at bits. Conditions: none.
-/
import Derived.Test.YtlefjghkeppjeaaW1
import Derived.Test.YtlefjghkeppjeaaVal
import Derived.Test.YtlefjghkeppjeaaMem
namespace Go.Proofs.Ytlefjghkeppjeaa
open Go Go.RowKit Flo Val

attribute [local go_sem] run_fadd run_fsub run_fmul run_fquo run_fconv run_f32bits run_f32from run_f64from run_f64bits

theorem like_conv {w : World} {x y : Nat} (h : Like .f32 x y) : Like .f64 (cres .f32 .f64 w x) (fconv .f32 .f64 y) :=
  (like_cres (conv_open x)).trans (fconv_like h)

theorem like_conv2 {w w' : World} {x y : Nat} (h : Like .f32 x y) : Like .f64 (cres .f32 .f64 w x) (cres .f32 .f64 w' y) :=
  (like_conv h).trans (like_cres (conv_open y)).symm

theorem nan_of_like {k : FloatKind} {x y : Nat} (h : Like k x y) : isNaN k x = isNaN k y := by
  rcases h with rfl | ⟨h1, h2⟩
  · rfl
  · rw [h1, h2]

theorem sameFloat_like (a b : Nat) (w : World) (h : Like .f64 a b) : Calls Try.prog 15 #[.float .f64 a, .float .f64 b] w fun e w' => e = .returned (.bool true) ∧ Dr w w' := by
  have e1 := order_self .f64 a
  have e2 := order_self .f64 b
  by_cases hn : isNaN .f64 a = true
  · have hn2 : isNaN .f64 b = true := by rw [← nan_of_like h]; exact hn
    rw [if_pos hn] at e1; rw [if_pos hn2] at e2
    clear h hn hn2
    go_enter Try.func15, Try.ntmps15
    go_wp2
    go_ret
    exact ⟨rfl, .refl _⟩
  · obtain rfl : a = b := by
      rcases h with h | h
      · exact h
      · exact absurd h.1 hn
    rw [if_neg hn] at e1
    clear h hn e2
    by_cases hz : FloatKind.f64.format.order a 0 = some .eq
    · have hd : ∀ w, FloatKind.f64.format.order (fres .quo .f64 w 4607182418800017408 a) 0 = FloatKind.f64.format.order (fop .quo .f64 4607182418800017408 a) 0 := fun w => order_like (like_fres _ _ _ _ _) (.refl _ _)
      go_enter Try.func15, Try.ntmps15
      go_wp2
      go_ret
      exact ⟨ret_bool (by simp), .one _ _⟩
    · have hz2 : (FloatKind.f64.format.order a 0 == some .eq) = false := by simpa using hz
      clear hz
      go_enter Try.func15, Try.ntmps15
      go_wp2
      go_ret
      exact ⟨ret_bool (by simp [e1]), .refl _⟩

theorem inB_lo {n lo hi : Int} (h : (decide (lo ≤ n) && decide (n ≤ hi)) = true) : lo ≤ n ∧ n ≤ hi := by simpa using h
def inB (n lo hi : Int) : Bool := decide (lo ≤ n) && decide (n ≤ hi)

theorem l00In_any (n lo hi : Int) (w : World) : Calls Try.prog 33 #[.int .i64 n, .int .i64 lo, .int .i64 hi] w fun e w' => e = .returned (.bool (inB n lo hi)) ∧ w = w' := by
  by_cases h1 : lo ≤ n
  · by_cases h2 : n ≤ hi
    · go_enter Try.func33, Try.ntmps33
      go_wp2
      go_ret
      exact ⟨ret_bool (by simp [inB]; omega), rfl⟩
    · go_enter Try.func33, Try.ntmps33
      go_wp2
      go_ret
      exact ⟨ret_bool (by simp [inB]; omega), rfl⟩
  · go_enter Try.func33, Try.ntmps33
    go_wp2
    go_ret
    exact ⟨ret_bool (by simp [inB]; omega), rfl⟩

theorem within_any (n lo hi : Int) (w : World) : Calls Try.prog 35 #[.int .i64 n, .int .i64 lo, .int .i64 hi] w fun e w' => e = .returned (.bool (inB n lo hi)) ∧ w = w' := by
  by_cases h1 : lo ≤ n
  · by_cases h2 : n ≤ hi
    · go_enter Try.func35, Try.ntmps35
      go_wp2
      go_ret
      exact ⟨ret_bool (by simp [inB]; omega), rfl⟩
    · go_enter Try.func35, Try.ntmps35
      go_wp2
      go_ret
      exact ⟨ret_bool (by simp [inB]; omega), rfl⟩
  · go_enter Try.func35, Try.ntmps35
    go_wp2
    go_ret
    exact ⟨ret_bool (by simp [inB]; omega), rfl⟩

def fromV (n : Int) : Value := if inB n 0 4294967295 then .tuple #[.float .f32 n.toNat, .bool true] else .tuple #[.float .f32 0, .bool false]
theorem ret_val {a b : Value} (h : a = b) : Ending.returned a = .returned b := by rw [h]

theorem l01From_any (n : Int) (w : World) (b0 : 0 ≤ n) (b1 : n ≤ 4294967295) : Calls Try.prog 34 #[.int .i64 n] w fun e w' => e = .returned (.float .f32 n.toNat) ∧ w = w' := by
  go_enter Try.func34, Try.ntmps34
  go_wp2
  go_ret
  exact ⟨rfl, rfl⟩

theorem specFromBits_any (n : Int) (w : World) : Calls Try.prog 22 #[.int .i64 n] w fun e w' => e = .returned (fromV n) ∧ w = w' := by
  by_cases h : inB n 0 4294967295 = true
  · obtain ⟨b0, b1⟩ := inB_lo h
    have e : fromV n = .tuple #[.float .f32 n.toNat, .bool true] := by rw [fromV, if_pos h]
    have E := Lib.hid e; clear e
    go_enter Try.func22, Try.ntmps22
    go_wp2_with (first | (go_at_call 33; refine (l00In_any _ _ _ _).mono ?_; rintro e w' ⟨rfl, rfl⟩) | (go_at_call 34; refine (l01From_any _ _ b0 b1).mono ?_; rintro e w' ⟨rfl, rfl⟩))
    go_ret2
    exact ⟨ret_val E.out.symm, rfl⟩
  · have e : fromV n = .tuple #[.float .f32 0, .bool false] := by rw [fromV, if_neg h]
    rw [Bool.not_eq_true] at h
    have E := Lib.hid e; clear e
    go_enter Try.func22, Try.ntmps22
    go_wp2_with (first | (go_at_call 33; refine (l00In_any _ _ _ _).mono ?_; rintro e w' ⟨rfl, rfl⟩))
    go_ret2
    exact ⟨ret_val E.out.symm, rfl⟩

theorem implFromBits_any (n : Int) (w : World) : Calls Try.prog 23 #[.int .i64 n] w fun e w' => e = .returned (fromV n) ∧ w = w' := by
  by_cases h : inB n 0 4294967295 = true
  · obtain ⟨b0, b1⟩ := inB_lo h
    have e : fromV n = .tuple #[.float .f32 n.toNat, .bool true] := by rw [fromV, if_pos h]
    have E := Lib.hid e; clear e
    go_enter Try.func23, Try.ntmps23
    go_wp2_with (first | (go_at_call 35; refine (within_any _ _ _ _).mono ?_; rintro e w' ⟨rfl, rfl⟩))
    go_ret2
    exact ⟨ret_val E.out.symm, rfl⟩
  · have e : fromV n = .tuple #[.float .f32 0, .bool false] := by rw [fromV, if_neg h]
    rw [Bool.not_eq_true] at h
    have E := Lib.hid e; clear e
    go_enter Try.func23, Try.ntmps23
    go_wp2_with (first | (go_at_call 35; refine (within_any _ _ _ _).mono ?_; rintro e w' ⟨rfl, rfl⟩))
    go_ret2
    exact ⟨ret_val E.out.symm, rfl⟩

theorem fromV_form (n : Int) : ∃ x b, fromV n = .tuple #[.float .f32 x, .bool b] := by
  unfold fromV; split
  · exact ⟨_, _, rfl⟩
  · exact ⟨_, _, rfl⟩

theorem fromBits_walk (n : Int) (w : World) (_ : (Lit.int .i64 n).wf = true) : Calls Try.prog 9 #[.int .i64 n] w fun e w' => e = .returned (.bool true) ∧ Below w.heap.size w w' := by
  obtain ⟨x, b, e⟩ := fromV_form n
  have E := Lib.hid e; clear e
  go_enter Try.func9, Try.ntmps9
  go_wp2_with (first
    | (go_at_call 22; refine (specFromBits_any n _).mono ?_; rintro e w' ⟨rfl, rfl⟩; rw [E.out])
    | (go_at_call 23; refine (implFromBits_any n _).mono ?_; rintro e w' ⟨rfl, rfl⟩; rw [E.out])
    | (go_at_call 15; refine (sameFloat_like _ _ _ (like_conv2 (.refl _ _))).mono ?_; rintro e w' ⟨rfl, nq, rfl⟩))
  go_ret
  exact ⟨rfl, below_draws _ _⟩
end Go.Proofs.Ytlefjghkeppjeaa
