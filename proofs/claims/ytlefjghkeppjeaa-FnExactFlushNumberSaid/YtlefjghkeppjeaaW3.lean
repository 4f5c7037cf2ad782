/-
  Walks of the laws SameNumber, IsSubnormal, FlushNumber. Conditions: none.
-/
import Derived.Test.YtlefjghkeppjeaaW2
import Derived.Laws.BitsAllLaws
namespace Go.Proofs.Ytlefjghkeppjeaa
open Go Go.RowKit Flo Val

attribute [local go_sem] run_fadd run_fsub run_fmul run_fquo run_fconv run_f32bits run_f32from run_f64from run_f64bits

theorem i64_and_nat (a b : Nat) (ha : a < 9223372036854775808) (hb : b < 9223372036854775808) : bits .and .i64 (a : Int) (b : Int) = ((a &&& b : Nat) : Int) := by
  have hx : a &&& b < 2 ^ 63 := Nat.and_lt_two_pow _ (by omega)
  show IntKind.i64.wrap ((BitVec.ofInt 64 (a : Int) &&& BitVec.ofInt 64 (b : Int)).toNat : Int) = _
  rw [BitVec.toNat_and, ofInt_u64 a (by omega), ofInt_u64 b (by omega), IntKind.wrap_i64]
  omega

theorem ret_float {k : FloatKind} {a b : Nat} (h : a = b) : Ending.returned (.float k a) = .returned (.float k b) := by rw [h]

theorem wrap_neg (x : Nat) (hx : x < 18446744073709551616) : decide (wrap64 (x : Int) < 0) = decide (9223372036854775808 ≤ x) := by
  have : (wrap64 (x : Int) < 0) ↔ 9223372036854775808 ≤ x := by
    unfold wrap64; omega
  simp only [this]

theorem signbit_any (x : Nat) (w : World) (hx : x < 18446744073709551616) : Calls Try.prog 32 #[.float .f64 x] w fun e w' => e = .returned (.bool (decide (9223372036854775808 ≤ x))) ∧ w = w' := by
  have h := wrap_neg x hx
  have H := Lib.hid h; clear h
  go_enter Try.func32, Try.ntmps32
  go_wp2
  go_ret
  exact ⟨ret_bool H.out, rfl⟩

theorem andNot_sign (x : Nat) (hx : x < 18446744073709551616) : (bits BinOp.andNot IntKind.u64 (x : Int) 9223372036854775808).toNat = x % 9223372036854775808 := by
  have h := u64_andNot_nat x 9223372036854775808 hx (by omega)
  have h2 : x &&& (18446744073709551615 - 9223372036854775808) = x % 9223372036854775808 := Nat.and_two_pow_sub_one_eq_mod x 63
  rw [h2] at h
  have h3 : bits BinOp.andNot IntKind.u64 (x : Int) 9223372036854775808 = ((x % 9223372036854775808 : Nat) : Int) := h
  rw [h3]; rfl

theorem abs_any (x : Nat) (w : World) (hx : x < 18446744073709551616) : Calls Try.prog 30 #[.float .f64 x] w fun e w' => e = .returned (.float .f64 (x % 9223372036854775808)) ∧ w = w' := by
  have h := andNot_sign x hx
  have H := Lib.hid h; clear h
  go_enter Try.func30, Try.ntmps30
  go_wp2
  go_ret
  exact ⟨ret_float H.out, rfl⟩

theorem and_sign (y : Nat) (hy : y < 18446744073709551616) : bits BinOp.and IntKind.u64 (y : Int) 9223372036854775808 = if 9223372036854775808 ≤ y then 9223372036854775808 else 0 := by
  have h : bits BinOp.and IntKind.u64 (y : Int) 9223372036854775808 = ((y &&& 2 ^ 63 : Nat) : Int) := u64_and_nat y 9223372036854775808 hy (by omega)
  rw [h, nat_bit]
  split <;> omega

def signZ (y : Nat) : Nat := if 9223372036854775808 ≤ y then 9223372036854775808 else 0
theorem copy_zero (y : Nat) (hy : y < 18446744073709551616) :
    (bits BinOp.or IntKind.u64 (bits BinOp.andNot IntKind.u64 0 9223372036854775808) (bits BinOp.and IntKind.u64 (y : Int) 9223372036854775808)).toNat = signZ y := by
  rw [and_sign y hy, signZ]
  split <;> decide +kernel

theorem copysign_any (y : Nat) (w : World) (hy : y < 18446744073709551616) : Calls Try.prog 38 #[.float .f64 0, .float .f64 y] w fun e w' => e = .returned (.float .f64 (signZ y)) ∧ w = w' := by
  have h := copy_zero y hy
  have H := Lib.hid h; clear h
  go_enter Try.func38, Try.ntmps38
  go_wp2
  go_ret
  exact ⟨ret_float H.out, rfl⟩

theorem cres_lt (w : World) (x : Nat) : cres .f32 .f64 w x < 18446744073709551616 := by
  unfold cres
  rw [if_neg (by decide)]
  have hw : ∀ d, FloatKind.f64.encode d < 18446744073709551616 := fun d => FloatKind.f64.format.write_lt d
  cases FloatKind.f32.decode x with
  | nan g t =>
    show (_ % 2) * 2 ^ 63 + 0x7ff0000000000000 + 1 + (_ / 2) % (2 ^ 52 - 1) < _
    have h1 : (w.tape w.drawn (Question.nanConv FloatKind.f64 x)) % 2 < 2 := Nat.mod_lt _ (by decide)
    have h2 : (w.tape w.drawn (Question.nanConv FloatKind.f64 x)) / 2 % (2 ^ 52 - 1) < 2 ^ 52 - 1 := Nat.mod_lt _ (by decide)
    generalize (w.tape w.drawn (Question.nanConv FloatKind.f64 x)) % 2 = a at *
    generalize (w.tape w.drawn (Question.nanConv FloatKind.f64 x)) / 2 % (2 ^ 52 - 1) = b at *
    omega
  | infinity g => exact hw _
  | number g m e =>
    dsimp only
    split
    · show (w.tape w.drawn (Question.floatToFloat x)) % 2 ^ 32 < _
      have := Nat.mod_lt (w.tape w.drawn (Question.floatToFloat x)) (show 0 < 2 ^ 32 by decide)
      omega
    · exact hw _

/-- A single that is no NaN, as a double: the sign stays; how the magnitudes stand to each other is asked of the values. -/
theorem conv_word (x : Nat) (hx : x < 4294967296) (hn : isNaN .f32 x = false) :
    ∃ R, fconv .f32 .f64 x = Ieee.double.word (decide (2147483648 ≤ x)) R ∧ R < 9223372036854775808 := by
  have hsw : Ieee.double.signWeight = 9223372036854775808 := by decide +kernel
  obtain ⟨s, R, e, hR, hs⟩ := word32 x hx
  have hin : Ieee.single.infRung < Ieee.single.signWeight := by decide +kernel
  have hsw32 : Ieee.single.signWeight = 2147483648 := by decide +kernel
  have hrd := read_word Ieee.single s R (by rw [hsw32]; exact hR)
  rw [← e] at hrd
  unfold fconv
  rw [if_neg (by decide)]
  unfold FloatKind.decode FloatKind.format
  dsimp only
  have hinf := Ieee.double.infRung_lt
  have enc : ∀ m p, ∃ R, FloatKind.f64.encode (Ieee.Datum.number s m p) = Ieee.double.word s R ∧ R < 9223372036854775808 := by
    intro m p
    unfold FloatKind.encode FloatKind.format Ieee.Format.write
    dsimp only
    unfold Ieee.Format.nearest
    split
    · exact ⟨0, rfl, by omega⟩
    · exact ⟨_, rfl, by have := Nat.min_le_right; rw [← hsw]; exact Nat.lt_of_le_of_lt (Nat.min_le_right _ _) hinf⟩
  rw [← hs]
  unfold isNaN FloatKind.decode FloatKind.format at hn
  dsimp only at hn
  rw [hrd] at hn ⊢
  by_cases h1 : R < Ieee.single.binade
  · rw [if_pos h1]; exact enc _ _
  · rw [if_neg h1] at hn ⊢
    by_cases h2 : R < Ieee.single.infRung
    · rw [if_pos h2]; exact enc _ _
    · rw [if_neg h2] at hn ⊢
      by_cases h3 : R = Ieee.single.infRung
      · rw [if_pos h3]; exact ⟨Ieee.double.infRung, rfl, by rw [← hsw]; exact hinf⟩
      · rw [if_neg h3] at hn
        simp [Ieee.Datum.isNaN] at hn

theorem conv_sign (x : Nat) (w : World) (hx : x < 4294967296) (hn : isNaN .f32 x = false) : decide (9223372036854775808 ≤ cres .f32 .f64 w x) = decide (2147483648 ≤ x) := by
  have hl := like_cres (w := w) (conv_open x)
  have he : cres .f32 .f64 w x = fconv .f32 .f64 x := by
    rcases hl with h | h
    · exact h
    · have := isNaN_conv x; rw [h.2, hn] at this; cases this
  obtain ⟨R, hr, hR⟩ := conv_word x hx hn
  rw [he, hr]
  unfold Ieee.Format.word
  have hsw : Ieee.double.signWeight = 9223372036854775808 := by decide +kernel
  by_cases h : 2147483648 ≤ x
  · simp only [h, decide_true, if_true]; rw [hsw]; simp
  · simp only [h, decide_false]; simp; omega

/-- Different magnitudes stand for different numbers. -/
theorem mag_inj (a b e f : Nat) (ha : a < 8388608) (hb : b < 8388608) (h : (8388608 + a) * 2 ^ e = (8388608 + b) * 2 ^ f) : e = f ∧ a = b := by
  have key : ∀ a b e f : Nat, a < 8388608 → b < 8388608 → (8388608 + a) * 2 ^ e = (8388608 + b) * 2 ^ f → e < f → False := by
    intro a b e f ha hb h hlt
    obtain ⟨d, rfl⟩ := Nat.exists_eq_add_of_lt hlt
    rw [show e + d + 1 = (d + 1) + e by omega, Nat.pow_add, ← Nat.mul_assoc] at h
    have h2 := Nat.eq_of_mul_eq_mul_right (Nat.two_pow_pos e) h
    rw [Nat.pow_succ] at h2
    have h3 : 1 ≤ 2 ^ d := Nat.one_le_two_pow
    have h4 : (8388608 + b) * (1 * 2) ≤ (8388608 + b) * (2 ^ d * 2) := Nat.mul_le_mul_left _ (Nat.mul_le_mul_right _ h3)
    omega
  rcases Nat.lt_trichotomy e f with hl | hl | hl
  · exact absurd (key a b e f ha hb h hl) id
  · subst hl
    have := Nat.eq_of_mul_eq_mul_right (Nat.two_pow_pos e) h
    exact ⟨rfl, by omega⟩
  · exact absurd (key b a f e hb ha h.symm hl) id

def mag32 (R : Nat) : Nat := if R < 8388608 then R else (8388608 + R % 8388608) * 2 ^ (R / 8388608 - 1)

theorem mag32_inj {R Q : Nat} (h : mag32 R = mag32 Q) : R = Q := by
  unfold mag32 at h
  have p1 : ∀ X : Nat, ¬ X < 8388608 → 8388608 ≤ (8388608 + X % 8388608) * 2 ^ (X / 8388608 - 1) := fun X _ => by
    have h3 : 1 ≤ 2 ^ (X / 8388608 - 1) := Nat.one_le_two_pow
    have := Nat.mul_le_mul_left (8388608 + X % 8388608) h3
    omega
  by_cases h1 : R < 8388608 <;> by_cases h2 : Q < 8388608
  · rw [if_pos h1, if_pos h2] at h; exact h
  · rw [if_pos h1, if_neg h2] at h; have := p1 Q h2; omega
  · rw [if_neg h1, if_pos h2] at h; have := p1 R h1; omega
  · rw [if_neg h1, if_neg h2] at h
    obtain ⟨e1, e2⟩ := mag_inj _ _ _ _ (Nat.mod_lt _ (by decide)) (Nat.mod_lt _ (by decide)) h
    omega

theorem scal32 (s : Bool) (m : Nat) (e : Nat) : scal s m (-149 + (e : Nat)) = if s then -((m * 2 ^ e * 2 ^ 2851 : Nat) : Int) else ((m * 2 ^ e * 2 ^ 2851 : Nat) : Int) := by
  unfold scal Ieee.signed
  rw [show (-149 + (e : Int) + 3000).toNat = e + 2851 by omega]
  simp only [Nat.shiftLeft_eq, Nat.pow_add, ← Nat.mul_assoc]

/-- The value of a single's word. -/
theorem val32 (s : Bool) (R : Nat) (hR : R < 2139095040) : val (FloatKind.f32.decode (Ieee.single.word s R)) = .num s (if s then -((mag32 R * 2 ^ 2851 : Nat) : Int) else ((mag32 R * 2 ^ 2851 : Nat) : Int)) := by
  have hbi : Ieee.single.binade = 8388608 := by decide +kernel
  have hin : Ieee.single.infRung = 2139095040 := by decide +kernel
  have hlp : Ieee.single.leastPlace = -149 := by decide +kernel
  have hsw : Ieee.single.signWeight = 2147483648 := by decide +kernel
  unfold FloatKind.decode FloatKind.format
  dsimp only
  rw [read_word _ s R (by rw [hsw]; omega), hbi, hin, hlp]
  unfold mag32
  by_cases h : R < 8388608
  · rw [if_pos h, if_pos h]
    simp only [val]
    have := scal32 s R 0
    rw [Nat.pow_zero, Nat.mul_one] at this
    rw [← this]; rfl
  · rw [if_neg h, if_pos hR, if_neg h]
    simp only [val]
    rw [scal32]

theorem notnan_rung (s : Bool) (R : Nat) (hR : R < 2147483648) (hn : isNaN .f32 (Ieee.single.word s R) = false) : R ≤ 2139095040 := by
  by_cases h : R ≤ 2139095040
  · exact h
  · have hbi : Ieee.single.binade = 8388608 := by decide +kernel
    have hin : Ieee.single.infRung = 2139095040 := by decide +kernel
    have hsw : Ieee.single.signWeight = 2147483648 := by decide +kernel
    unfold isNaN FloatKind.decode FloatKind.format at hn
    dsimp only at hn
    rw [read_word _ s R (by rw [hsw]; omega), hbi, hin, if_neg (by omega), if_neg (by omega), if_neg (by omega)] at hn
    simp [Ieee.Datum.isNaN] at hn

theorem val32_inf (s : Bool) : val (FloatKind.f32.decode (Ieee.single.word s 2139095040)) = .inf s := by cases s <;> decide +kernel

theorem same32 (a b : Nat) (ha : a < 4294967296) (hb : b < 4294967296) (na : isNaN .f32 a = false) (nb : isNaN .f32 b = false) :
    ((FloatKind.f32.format.order a b == some .eq) && (decide (2147483648 ≤ a) == decide (2147483648 ≤ b))) = decide (a = b) := by
  obtain ⟨s, R, ea, hR, hs⟩ := word32 a ha
  obtain ⟨t, Q, eb, hQ, ht⟩ := word32 b hb
  rw [← hs, ← ht]
  rw [Bool.eq_iff_iff]
  simp only [Bool.and_eq_true, beq_iff_eq, decide_eq_true_eq]
  constructor
  · rintro ⟨ho, rfl⟩
    rw [order_v, ea, eb] at ho
    rw [ea] at na; rw [eb] at nb
    have hR2 := notnan_rung _ _ hR na
    have hQ2 := notnan_rung _ _ hQ nb
    suffices R = Q by rw [ea, eb, this]
    by_cases h1 : R = 2139095040 <;> by_cases h2 : Q = 2139095040
    · omega
    · subst h1
      rw [val32_inf, val32 _ Q (by omega)] at ho
      cases s <;> simp [ordV] at ho
    · subst h2
      rw [val32_inf, val32 _ R (by omega)] at ho
      cases s <;> simp [ordV] at ho
    · rw [val32 _ R (by omega), val32 _ Q (by omega)] at ho
      simp only [ordV, Option.some.injEq, Int.compare_eq_eq] at ho
      have hm : mag32 R * 2 ^ 2851 = mag32 Q * 2 ^ 2851 := by
        generalize mag32 R * 2 ^ 2851 = X at *
        generalize mag32 Q * 2 ^ 2851 = Y at *
        cases s <;> simp at ho <;> omega
      exact mag32_inj (Nat.eq_of_mul_eq_mul_right (Nat.two_pow_pos _) hm)
  · rintro rfl
    refine ⟨?_, by rw [hs, ht]⟩
    rw [order_self, na]; rfl

def sameB (a b : Nat) : Bool := bits32 a == bits32 b

theorem bits32_nan {x : Nat} (h : isNaN .f32 x = true) : bits32 x = 2143289344 := by
  unfold bits32; rw [order_self, if_pos h]; rfl
theorem bits32_num {x : Nat} (h : isNaN .f32 x = false) : bits32 x = x := by
  unfold bits32; rw [order_self, h]; rfl

theorem nan_q : isNaN .f32 2143289344 = true := by decide +kernel

theorem sameB_nan {a b : Nat} (h : isNaN .f32 a = true ∨ isNaN .f32 b = true) : sameB a b = (isNaN .f32 a && isNaN .f32 b) := by
  unfold sameB
  cases ha : isNaN .f32 a <;> cases hb : isNaN .f32 b
  · rw [ha, hb] at h; simp at h
  · rw [bits32_num ha, bits32_nan hb]
    have : a ≠ 2143289344 := fun e => by rw [e, nan_q] at ha; cases ha
    simp; omega
  · rw [bits32_nan ha, bits32_num hb]
    have : b ≠ 2143289344 := fun e => by rw [e, nan_q] at hb; cases hb
    simp; omega
  · rw [bits32_nan ha, bits32_nan hb]; rfl

theorem l01Same_any (a b : Nat) (w : World) (ha : a < 4294967296) (hb : b < 4294967296) : Calls Try.prog 31 #[.float .f32 a, .float .f32 b] w fun e w' => e = .returned (.bool (sameB a b)) ∧ w = w' := by
  go_enter Try.func31, Try.ntmps31
  go_wp2_with fail
  go_at_call 28
  refine (l01Bits_any _ _ ha).mono ?_
  rintro e w' ⟨rfl, rfl⟩
  go_wp2_with fail
  go_at_call 28
  refine (l01Bits_any _ _ hb).mono ?_
  rintro e w' ⟨rfl, rfl⟩
  go_wp2
  go_ret
  exact ⟨rfl, rfl⟩

theorem specSame_any (a b : Nat) (w : World) (ha : a < 4294967296) (hb : b < 4294967296) : Calls Try.prog 20 #[.float .f32 a, .float .f32 b] w fun e w' => e = .returned (.bool (sameB a b)) ∧ w = w' := by
  go_enter Try.func20, Try.ntmps20
  go_wp2_with (go_at_call 31; refine (l01Same_any _ _ _ ha hb).mono ?_; rintro e w' ⟨rfl, rfl⟩)
  go_ret
  exact ⟨rfl, rfl⟩

set_option maxHeartbeats 1000000 in
theorem implSame_any (a b : Nat) (w : World) (ha : a < 4294967296) (hb : b < 4294967296) : Calls Try.prog 21 #[.float .f32 a, .float .f32 b] w fun e w' => e = .returned (.bool (sameB a b)) ∧ Dr w w' := by
  have e1 := order_self .f32 a
  have e2 := order_self .f32 b
  cases na : isNaN .f32 a
  · cases nb : isNaN .f32 b
    · have hs := same32 a b ha hb na nb
      have hsb : sameB a b = decide (a = b) := by
        unfold sameB; rw [bits32_num na, bits32_num nb, Bool.eq_iff_iff]; simp only [beq_iff_eq, decide_eq_true_eq]; omega
      rw [na] at e1; rw [nb] at e2
      have s1 := fun w => conv_sign a w ha na
      have s2 := fun w => conv_sign b w hb nb
      rw [← hsb] at hs
      have HS := Lib.hid hs; clear hs hsb na nb
      simp only [Bool.false_eq_true, if_false] at e1 e2
      by_cases ho : (FloatKind.f32.format.order a b == some .eq) = true
      · have HO := Lib.hid ho
        go_enter Try.func21, Try.ntmps21
        go_wp2_with fail
        go_at_call 32
        refine (signbit_any _ _ (cres_lt _ _)).mono ?_
        rintro e w' ⟨rfl, rfl⟩
        go_wp2_with fail
        go_at_call 32
        refine (signbit_any _ _ (cres_lt _ _)).mono ?_
        rintro e w' ⟨rfl, rfl⟩
        go_wp2
        go_ret
        exact ⟨ret_bool (by rw [← HS.out, HO.out, Bool.true_and]), .one _ _⟩
      · rw [Bool.not_eq_true] at ho
        have HO := Lib.hid ho
        go_enter Try.func21, Try.ntmps21
        go_wp2
        go_ret
        exact ⟨ret_bool (by rw [← HS.out, HO.out, Bool.false_and]), .refl _⟩
    · have hs := sameB_nan (a := a) (b := b) (.inr nb)
      rw [na, nb] at hs
      have HS := Lib.hid hs
      rw [na] at e1; rw [nb] at e2
      clear hs na nb
      simp only [Bool.false_eq_true, if_false, if_true] at e1 e2
      go_enter Try.func21, Try.ntmps21
      go_wp2
      go_ret
      exact ⟨ret_bool (by have h3 := HS.out; rw [h3]; try rfl), .refl _⟩
  · have hs := sameB_nan (a := a) (b := b) (.inl na)
    rw [na, Bool.true_and] at hs
    rw [na] at e1
    have HS := Lib.hid hs
    cases nb : isNaN .f32 b
    · rw [nb] at e2
      have HN := Lib.hid nb
      clear hs na nb
      simp only [Bool.false_eq_true, if_false, if_true] at e1 e2
      go_enter Try.func21, Try.ntmps21
      go_wp2
      go_ret
      exact ⟨ret_bool (by have h3 := HS.out.trans HN.out; rw [h3]; try rfl), .refl _⟩
    · rw [nb] at e2
      have HN := Lib.hid nb
      clear hs na nb
      simp only [if_true] at e1 e2
      go_enter Try.func21, Try.ntmps21
      go_wp2
      go_ret
      exact ⟨ret_bool (by have h3 := HS.out.trans HN.out; rw [h3]; try rfl), .refl _⟩

theorem same_walk (a b : Nat) (w : World) (h1 : (Lit.float .f32 a).wf = true) (h2 : (Lit.float .f32 b).wf = true) : Calls Try.prog 8 #[.float .f32 a, .float .f32 b] w fun e w' => e = .returned (.bool true) ∧ Below w.heap.size w w' := by
  have ha := wf32 h1
  have hb := wf32 h2
  clear h1 h2
  go_enter Try.func8, Try.ntmps8
  go_wp2_with (first
    | (go_at_call 20; refine (specSame_any _ _ _ ha hb).mono ?_; rintro e w' ⟨rfl, rfl⟩)
    | (go_at_call 21; refine (implSame_any _ _ _ ha hb).mono ?_; rintro e w' ⟨rfl, nq, rfl⟩))
  go_ret
  exact ⟨rfl, below_draws _ _⟩
end Go.Proofs.Ytlefjghkeppjeaa
