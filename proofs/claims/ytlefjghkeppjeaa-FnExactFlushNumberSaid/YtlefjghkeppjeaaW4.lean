/-
  Walks of the laws IsSubnormal, FlushNumber. Conditions: none.
-/
import Derived.Test.YtlefjghkeppjeaaW3
namespace Go.Proofs.Ytlefjghkeppjeaa
open Go Go.RowKit Flo Val

attribute [local go_sem] run_fadd run_fsub run_fmul run_fquo run_fconv run_f32bits run_f32from run_f64from run_f64bits

/-- The unit in which values are counted. -/
def U : Nat := 2 ^ 2851
theorem U_pos : 0 < U := by unfold U; exact Nat.two_pow_pos 2851
theorem val32u (s : Bool) (R : Nat) (hR : R < 2139095040) : val (FloatKind.f32.decode (Ieee.single.word s R)) = .num s (if s then -((mag32 R * U : Nat) : Int) else ((mag32 R * U : Nat) : Int)) := by unfold U; exact val32 s R hR
theorem cmp_U (a b : Nat) : compare ((a * U : Nat) : Int) ((b * U : Nat) : Int) = compare (a : Int) (b : Int) := by
  unfold U
  rw [Int.natCast_mul, Int.natCast_mul]
  exact compare_mul (a : Int) (b : Int) 2851

def subB (x : Nat) : Bool := decide (0 < x % 2147483648) && decide (x % 2147483648 < 8388608)

theorem word_mod (x : Nat) (hx : x < 4294967296) : ∃ s, x = Ieee.single.word s (x % 2147483648) ∧ s = decide (2147483648 ≤ x) := by
  obtain ⟨s, R, e, hR, hs⟩ := word32 x hx
  have hsw : Ieee.single.signWeight = 2147483648 := by decide +kernel
  have : x % 2147483648 = R := by
    rw [e]; unfold Ieee.Format.word; cases s
    · simp only [Bool.false_eq_true, if_false]; omega
    · simp only [if_true, hsw]; omega
  exact ⟨s, by rw [this]; exact e, hs⟩

theorem mag32_small (R : Nat) : (mag32 R < 8388608) ↔ R < 8388608 := by
  unfold mag32
  by_cases h : R < 8388608
  · rw [if_pos h]
  · rw [if_neg h]
    have h3 : 1 ≤ 2 ^ (R / 8388608 - 1) := Nat.one_le_two_pow
    have := Nat.mul_le_mul_left (8388608 + R % 8388608) h3
    omega

theorem mag32_zero (R : Nat) : mag32 R = 0 ↔ R = 0 := by
  have h := @mag32_inj R 0
  have h0 : mag32 0 = 0 := rfl
  constructor
  · intro e; exact h (by rw [e, h0])
  · rintro rfl; exact h0

theorem order_zero (x : Nat) (hx : x < 4294967296) : (FloatKind.f32.format.order x 0 != some .eq) = decide (0 < x % 2147483648) := by
  obtain ⟨s, e, _⟩ := word_mod x hx
  have hR : x % 2147483648 < 2147483648 := Nat.mod_lt _ (by decide)
  have h0 : val (FloatKind.f32.decode 0) = .num false 0 := by decide +kernel
  rw [order_v, h0]
  by_cases h1 : x % 2147483648 < 2139095040
  · have hv := val32u s (x % 2147483648) h1
    rw [← e] at hv
    rw [hv]
    by_cases hz : x % 2147483648 = 0
    · rw [hz]; cases s <;> simp [ordV, mag32]
    · have hp : 0 < mag32 (x % 2147483648) * U := Nat.mul_pos (Nat.pos_of_ne_zero fun h => hz ((mag32_zero _).1 h)) U_pos
      generalize mag32 (x % 2147483648) * U = M at hp
      have hd : decide (0 < x % 2147483648) = true := decide_eq_true (by omega)
      rw [hd]
      cases s
      · have : compare (M : Int) 0 = .gt := Int.compare_eq_gt.2 (by omega)
        simp [ordV, this]
      · have : compare (-(M : Int)) 0 = .lt := Int.compare_eq_lt.2 (by omega)
        simp [ordV, this]
  · have hd : decide (0 < x % 2147483648) = true := decide_eq_true (by omega)
    rw [hd]
    by_cases h2 : x % 2147483648 = 2139095040
    · rw [h2] at e
      rw [e, val32_inf]; cases s <;> rfl
    · cases hn : isNaN .f32 x
      · rw [e] at hn; have := notnan_rung _ _ hR hn; omega
      · rw [isNaN_val] at hn
        rw [of_decide_eq_true hn]; rfl

theorem flip_val (f : Ieee.Format) (s : Bool) (R : Nat) (h : R < f.signWeight) : val (f.read (f.word s R)) =
    match val (f.read (f.word false R)) with | .num _ v => .num s (if s then -v else v) | .inf _ => .inf s | .nan => .nan := by
  rw [read_word f s R h, read_word f false R h]
  have hs : ∀ m p, scal s m p = if s then -(scal false m p) else scal false m p := by
    intro m p; unfold scal Ieee.signed; cases s <;> simp
  by_cases h1 : R < f.binade
  · simp only [if_pos h1, val, hs]
  · simp only [if_neg h1]
    by_cases h2 : R < f.infRung
    · simp only [if_pos h2, val, hs]
    · simp only [if_neg h2]
      by_cases h3 : R = f.infRung
      · simp only [if_pos h3, val]
      · simp only [if_neg h3, val]

theorem cres_eq {w : World} {x : Nat} (hn : isNaN .f32 x = false) : cres .f32 .f64 w x = fconv .f32 .f64 x := by
  rcases like_cres (w := w) (conv_open x) with h | h
  · exact h
  · have := isNaN_conv x; rw [h.2, hn] at this; cases this

/-- Below the least normal number. -/
theorem abs_small (w : World) (x : Nat) (hx : x < 4294967296) : (FloatKind.f64.format.order (cres .f32 .f64 w x % 9223372036854775808) 4039728865751334912 == some .lt) = decide (x % 2147483648 < 8388608) := by
  have hsw : Ieee.double.signWeight = 9223372036854775808 := by decide +kernel
  have hc : val (FloatKind.f64.decode 4039728865751334912) = .num false ((8388608 * U : Nat) : Int) := by decide +kernel
  obtain ⟨s, e, hs⟩ := word_mod x hx
  have hR : x % 2147483648 < 2147483648 := Nat.mod_lt _ (by decide)
  cases hn : isNaN .f32 x
  · obtain ⟨R', hr, hR'⟩ := conv_word x hx hn
    have hm : cres .f32 .f64 w x % 9223372036854775808 = Ieee.double.word false R' := by
      rw [cres_eq hn, hr]; unfold Ieee.Format.word
      split
      · rw [hsw]; simp only [Bool.false_eq_true, if_false]; omega
      · simp only [Bool.false_eq_true, if_false]; omega
    rw [hm, order_v, hc]
    have hv := conv_val x
    rw [hr, ← hs] at hv
    have hf := flip_val Ieee.double s R' (by rw [hsw]; exact hR')
    unfold FloatKind.decode FloatKind.format at hv ⊢
    dsimp only at hv ⊢
    rw [hf] at hv
    rw [e] at hn
    have hR2 := notnan_rung _ _ hR hn
    by_cases h1 : x % 2147483648 < 2139095040
    · have hv32 := val32u s (x % 2147483648) h1
      rw [← e] at hv32
      unfold FloatKind.decode FloatKind.format at hv32
      dsimp only at hv32
      rw [hv32] at hv
      have hx3 : val (Ieee.double.read (Ieee.double.word false R')) = .num false ((mag32 (x % 2147483648) * U : Nat) : Int) := by
        have hfalse := flip_val Ieee.double false R' (by rw [hsw]; exact hR')
        generalize mag32 (x % 2147483648) * U = M at hv
        cases hvv : val (Ieee.double.read (Ieee.double.word false R')) with
        | nan => rw [hvv] at hv; simp at hv
        | inf g => rw [hvv] at hv; simp at hv
        | num g v =>
          rw [hvv] at hv hfalse
          simp only [V.num.injEq, Bool.false_eq_true, if_false] at hv hfalse
          obtain ⟨rfl, _⟩ := hfalse
          congr 1
          cases s <;> simp at hv <;> omega
      rw [hx3]
      simp only [ordV]
      rw [cmp_U, Bool.eq_iff_iff]
      simp only [beq_iff_eq, Option.some.injEq, Int.compare_eq_lt, decide_eq_true_eq]
      have := mag32_small (x % 2147483648)
      omega
    · have h2 : x % 2147483648 = 2139095040 := by omega
      have hvi := val32_inf s
      rw [h2] at e
      rw [← e] at hvi
      unfold FloatKind.decode FloatKind.format at hvi
      dsimp only at hvi
      rw [hvi] at hv
      have hx3 : ∃ g, val (Ieee.double.read (Ieee.double.word false R')) = .inf g := by
        cases hvv : val (Ieee.double.read (Ieee.double.word false R')) with
        | nan => rw [hvv] at hv; simp at hv
        | inf g => exact ⟨g, rfl⟩
        | num g v => rw [hvv] at hv; simp at hv
      obtain ⟨g, hg⟩ := hx3
      have hfalse := flip_val Ieee.double false R' (by rw [hsw]; exact hR')
      rw [hg] at hfalse ⊢
      simp only [V.inf.injEq] at hfalse
      subst hfalse
      rw [h2]; rfl
  · have hcn : isNaN .f64 (cres .f32 .f64 w x) = true := by
      have h1 := nan_of_like (like_cres (w := w) (conv_open x))
      rw [h1, isNaN_conv, hn]
    have hlt := cres_lt w x
    generalize cres .f32 .f64 w x = y at hcn hlt
    obtain ⟨g, R', hy, hR', _⟩ : ∃ g R', y = Ieee.double.word g R' ∧ R' < 9223372036854775808 ∧ y % 9223372036854775808 = R' := by
      by_cases hs : 9223372036854775808 ≤ y
      · exact ⟨true, y - 9223372036854775808, by unfold Ieee.Format.word; rw [hsw]; simp; omega, by omega, by omega⟩
      · exact ⟨false, y, rfl, by omega, by omega⟩
    have hm : y % 9223372036854775808 = Ieee.double.word false R' := by
      unfold Ieee.Format.word; simp; omega
    rw [isNaN_val] at hcn
    have hv := of_decide_eq_true hcn
    unfold FloatKind.decode FloatKind.format at hv
    dsimp only at hv
    rw [hy, flip_val Ieee.double g R' (by rw [hsw]; exact hR')] at hv
    have hnan : val (Ieee.double.read (Ieee.double.word false R')) = .nan := by
      cases hvv : val (Ieee.double.read (Ieee.double.word false R')) with
      | nan => rfl
      | inf g => rw [hvv] at hv; simp at hv
      | num g v => rw [hvv] at hv; simp at hv
    rw [hm, order_v]
    unfold FloatKind.decode FloatKind.format
    dsimp only
    rw [hnan]
    have hbig : ¬ x % 2147483648 < 8388608 := by
      intro hlt2
      have hv32 := val32u s (x % 2147483648) (by omega)
      rw [← e] at hv32
      rw [isNaN_val, hv32] at hn
      simp at hn
    rw [decide_eq_false hbig]; rfl

theorem mask_any (x : Nat) (hx : x < 4294967296) : (bits BinOp.and IntKind.i64 (x : Int) 2139095040 == 0) = decide (x % 2147483648 < 8388608) := by
  have h : bits BinOp.and IntKind.i64 (x : Int) 2139095040 = ((x &&& (2 ^ 31 - 2 ^ 23) : Nat) : Int) := i64_and_nat x 2139095040 (by omega) (by omega)
  rw [h, nat_midmask 31 23 x (by omega), Bool.eq_iff_iff]
  simp only [beq_iff_eq, decide_eq_true_eq]
  omega

theorem mask_bits (x : Nat) (hx : x < 4294967296) : (bits BinOp.and IntKind.i64 (bits32 x) 2139095040 == 0) = decide (x % 2147483648 < 8388608) := by
  cases hn : isNaN .f32 x
  · rw [bits32_num hn]; exact mask_any x hx
  · rw [bits32_nan hn]
    obtain ⟨s, e, _⟩ := word_mod x hx
    have hbig : ¬ x % 2147483648 < 8388608 := by
      intro hlt2
      have hv32 := val32u s (x % 2147483648) (by omega)
      rw [← e] at hv32
      rw [isNaN_val, hv32] at hn
      simp at hn
    rw [decide_eq_false hbig]; decide +kernel

theorem specSub_any (x : Nat) (w : World) (hx : x < 4294967296) : Calls Try.prog 18 #[.float .f32 x] w fun e w' => e = .returned (.bool (subB x)) ∧ w = w' := by
  have h1 := order_zero x hx
  have h2 := mask_bits x hx
  by_cases hz : 0 < x % 2147483648
  · rw [decide_eq_true hz] at h1
    have hs : subB x = decide (x % 2147483648 < 8388608) := by rw [subB, decide_eq_true hz, Bool.true_and]
    rw [← hs] at h2
    have H2 := Lib.hid h2; clear h2 hs
    go_enter Try.func18, Try.ntmps18
    go_wp2_with (go_at_call 28; refine (l01Bits_any _ _ hx).mono ?_; rintro e w' ⟨rfl, rfl⟩)
    go_ret
    exact ⟨ret_bool H2.out, rfl⟩
  · rw [decide_eq_false hz] at h1
    have hs : subB x = false := by rw [subB, decide_eq_false hz, Bool.false_and]
    have H2 := Lib.hid hs; clear h2 hs
    go_enter Try.func18, Try.ntmps18
    go_wp2
    go_ret
    exact ⟨ret_bool H2.out.symm, rfl⟩

theorem implSub_any (x : Nat) (w : World) (hx : x < 4294967296) : Calls Try.prog 19 #[.float .f32 x] w fun e w' => e = .returned (.bool (subB x)) ∧ Dr w w' := by
  have h1 := order_zero x hx
  have h2 := abs_small w x hx
  by_cases hz : 0 < x % 2147483648
  · rw [decide_eq_true hz] at h1
    have hs : subB x = decide (x % 2147483648 < 8388608) := by rw [subB, decide_eq_true hz, Bool.true_and]
    rw [← hs] at h2
    have H2 := Lib.hid h2; clear h2 hs
    go_enter Try.func19, Try.ntmps19
    go_wp2_with (go_at_call 30; refine (abs_any _ _ (cres_lt _ _)).mono ?_; rintro e w' ⟨rfl, rfl⟩)
    go_ret
    exact ⟨ret_bool H2.out, .one _ _⟩
  · rw [decide_eq_false hz] at h1
    have hs : subB x = false := by rw [subB, decide_eq_false hz, Bool.false_and]
    have H2 := Lib.hid hs; clear h2 hs
    go_enter Try.func19, Try.ntmps19
    go_wp2
    go_ret
    exact ⟨ret_bool H2.out.symm, .refl _⟩

theorem sub_walk (x : Nat) (w : World) (h1 : (Lit.float .f32 x).wf = true) : Calls Try.prog 7 #[.float .f32 x] w fun e w' => e = .returned (.bool true) ∧ Below w.heap.size w w' := by
  have hx := wf32 h1
  clear h1
  go_enter Try.func7, Try.ntmps7
  go_wp2_with (first
    | (go_at_call 18; refine (specSub_any _ _ hx).mono ?_; rintro e w' ⟨rfl, rfl⟩)
    | (go_at_call 19; refine (implSub_any _ _ hx).mono ?_; rintro e w' ⟨rfl, nq, rfl⟩))
  go_ret
  exact ⟨rfl, below_draws _ _⟩

/-- A subnormal number made a zero of its sign. -/
def flushV (x : Nat) : Nat := if x % 2147483648 < 8388608 then (if 2147483648 ≤ x then 2147483648 else 0) else x

theorem signbit_bits (x : Nat) (hx : x < 4294967296) (h : x % 2147483648 < 8388608) : (bits BinOp.and IntKind.i64 (bits32 x) 2147483648).toNat = flushV x ∧ 0 ≤ bits BinOp.and IntKind.i64 (bits32 x) 2147483648 ∧ bits BinOp.and IntKind.i64 (bits32 x) 2147483648 ≤ 4294967295 := by
  have hn : isNaN .f32 x = false := by
    obtain ⟨s, e, _⟩ := word_mod x hx
    have hv32 := val32u s (x % 2147483648) (by omega)
    rw [← e] at hv32
    rw [isNaN_val, hv32]; simp
  rw [bits32_num hn, flushV, if_pos h]
  have h : bits BinOp.and IntKind.i64 (x : Int) 2147483648 = ((x &&& 2 ^ 31 : Nat) : Int) := i64_and_nat x 2147483648 (by omega) (by omega)
  rw [h, nat_bit]
  split <;> omega

theorem l01Flush_any (x : Nat) (w : World) (hx : x < 4294967296) : Calls Try.prog 37 #[.float .f32 x] w fun e w' => e = .returned (.float .f32 (flushV x)) ∧ w = w' := by
  have h2 := mask_bits x hx
  by_cases h : x % 2147483648 < 8388608
  · rw [decide_eq_true h] at h2
    obtain ⟨f1, f2, f3⟩ := signbit_bits x hx h
    have F1 := Lib.hid f1; clear f1
    go_enter Try.func37, Try.ntmps37
    go_wp2_with (first
      | (go_at_call 28; refine (l01Bits_any _ _ hx).mono ?_; rintro e w' ⟨rfl, rfl⟩)
      | (go_at_call 34; refine (l01From_any _ _ f2 f3).mono ?_; rintro e w' ⟨rfl, rfl⟩))
    go_ret
    exact ⟨ret_float F1.out, rfl⟩
  · rw [decide_eq_false h] at h2
    have f1 : flushV x = x := by rw [flushV, if_neg h]
    have F1 := Lib.hid f1; clear f1
    go_enter Try.func37, Try.ntmps37
    go_wp2_with (go_at_call 28; refine (l01Bits_any _ _ hx).mono ?_; rintro e w' ⟨rfl, rfl⟩)
    go_ret
    exact ⟨ret_float F1.out.symm, rfl⟩

theorem specFlush_any (x : Nat) (w : World) (hx : x < 4294967296) : Calls Try.prog 24 #[.float .f32 x] w fun e w' => e = .returned (.float .f32 (flushV x)) ∧ w = w' := by
  go_enter Try.func24, Try.ntmps24
  go_wp2_with (go_at_call 37; refine (l01Flush_any _ _ hx).mono ?_; rintro e w' ⟨rfl, rfl⟩)
  go_ret
  exact ⟨rfl, rfl⟩

theorem narrow_zero (w : World) (x : Nat) (hx : x < 4294967296) (h : subB x = true) (w1 : World) : cres .f64 .f32 w (signZ (cres .f32 .f64 w1 x)) = flushV x := by
  have h1 : 0 < x % 2147483648 ∧ x % 2147483648 < 8388608 := by simpa [subB] using h
  have hn : isNaN .f32 x = false := by
    obtain ⟨s, e, _⟩ := word_mod x hx
    have hv32 := val32u s (x % 2147483648) (by omega)
    rw [← e] at hv32
    rw [isNaN_val, hv32]; simp
  have hs := conv_sign x w1 hx hn
  rw [flushV, if_pos h1.2, signZ]
  by_cases hb : 2147483648 ≤ x
  · have hb2 : 9223372036854775808 ≤ cres .f32 .f64 w1 x := by
      rw [decide_eq_true hb] at hs; exact of_decide_eq_true hs
    rw [if_pos hb, if_pos hb2]
    have hl := like_cres (s := .f64) (d := .f32) (w := w) (b := 9223372036854775808) (by decide +kernel)
    have he : fconv .f64 .f32 9223372036854775808 = 2147483648 := by decide +kernel
    rw [he] at hl
    rcases hl with h | h
    · exact h
    · exact absurd h.2 (by decide +kernel)
  · have hb2 : ¬ 9223372036854775808 ≤ cres .f32 .f64 w1 x := by
      rw [decide_eq_false hb] at hs; exact of_decide_eq_false hs
    rw [if_neg hb, if_neg hb2]
    have hl := like_cres (s := .f64) (d := .f32) (w := w) (b := 0) (by decide +kernel)
    have he : fconv .f64 .f32 0 = 0 := by decide +kernel
    rw [he] at hl
    rcases hl with h | h
    · exact h
    · exact absurd h.2 (by decide +kernel)

theorem implFlush_any (x : Nat) (w : World) (hx : x < 4294967296) : Calls Try.prog 25 #[.float .f32 x] w fun e w' => e = .returned (.float .f32 (flushV x)) ∧ Dr w w' := by
  cases h : subB x
  · have f1 : flushV x = x := by
      unfold flushV
      split
      · rename_i h2
        have h3 : ¬ 0 < x % 2147483648 := fun h4 => by simp [subB, h2, h4] at h
        split <;> omega
      · rfl
    have F1 := Lib.hid f1; clear f1
    go_enter Try.func25, Try.ntmps25
    go_wp2_with (go_at_call 19; refine (implSub_any _ _ hx).mono ?_; rintro e w' ⟨rfl, nq, rfl⟩)
    go_ret
    exact ⟨ret_float F1.out.symm, .one _ _⟩
  · have f1 := fun w w1 => narrow_zero w x hx h w1
    have F1 := Lib.hid f1; clear f1
    go_enter Try.func25, Try.ntmps25
    go_wp2_with (first
      | (go_at_call 19; refine (implSub_any _ _ hx).mono ?_; rintro e w' ⟨rfl, nq, rfl⟩)
      | (go_at_call 38; refine (copysign_any _ _ (cres_lt _ _)).mono ?_; rintro e w' ⟨rfl, rfl⟩))
    go_ret
    exact ⟨ret_float (F1.out _ _), .one _ _⟩

theorem flush_walk (x : Nat) (w : World) (h1 : (Lit.float .f32 x).wf = true) : Calls Try.prog 10 #[.float .f32 x] w fun e w' => e = .returned (.bool true) ∧ Below w.heap.size w w' := by
  have hx := wf32 h1
  clear h1
  go_enter Try.func10, Try.ntmps10
  go_wp2_with (first
    | (go_at_call 24; refine (specFlush_any _ _ hx).mono ?_; rintro e w' ⟨rfl, rfl⟩)
    | (go_at_call 25; refine (implFlush_any _ _ hx).mono ?_; rintro e w' ⟨rfl, nq, rfl⟩)
    | (go_at_call 15; refine (sameFloat_like _ _ _ (like_conv2 (.refl _ _))).mono ?_; rintro e w' ⟨rfl, nq2, rfl⟩))
  go_ret
  exact ⟨rfl, below_draws _ _⟩
end Go.Proofs.Ytlefjghkeppjeaa
