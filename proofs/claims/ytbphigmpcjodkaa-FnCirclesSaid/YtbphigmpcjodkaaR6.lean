/-
  Walks: the law SineTurns. Conditions: none.
-/
import Derived.Test.YtbphigmpcjodkaaR5
set_option linter.unusedVariables false
set_option linter.unusedSimpArgs false
namespace Go.Proofs.Ytbphigmpcjodkaa
open Go Go.RowKit Flo Val Fb

attribute [local go_sem] run_store_float run_fadd run_fsub run_fmul run_fquo run_fconv World.drewN_zero

theorem run_f64from (x : Int) (w : World) : (callFunc 71 #[.int .u64 x]).run Try.prog w = .ok (.value (.float .f64 x.toNat)) w := by kernel_rfl
theorem run_f64bits (x : Nat) (w : World) : (callFunc 73 #[.float .f64 x]).run Try.prog w = .ok (.value (.int .u64 x)) w := by kernel_rfl
attribute [local go_sem] run_f64from run_f64bits

theorem ofInt_u64 (a : Nat) (h : a < 18446744073709551616) : (BitVec.ofInt 64 (a : Int)).toNat = a := by
  rw [BitVec.ofInt_natCast, BitVec.toNat_ofNat]; exact Nat.mod_eq_of_lt (by omega)
theorem wrapu (a : Nat) (h : a < 18446744073709551616) : IntKind.u64.wrap (a : Int) = a := by
  simp [IntKind.wrap, IntKind.bits, IntKind.signed]; omega
theorem andNot_sign (x : Nat) (hx : x < 18446744073709551616) : (bits BinOp.andNot IntKind.u64 (x : Int) 9223372036854775808).toNat = x % 9223372036854775808 := by
  have h2 : x &&& (18446744073709551616 - 1 - 9223372036854775808) = x % 9223372036854775808 := Nat.and_two_pow_sub_one_eq_mod x 63
  have h3 : bits BinOp.andNot IntKind.u64 (x : Int) 9223372036854775808 = ((x % 9223372036854775808 : Nat) : Int) := by
    show IntKind.u64.wrap ((BitVec.ofInt 64 (x : Int) &&& ~~~BitVec.ofInt 64 ((9223372036854775808 : Nat) : Int)).toNat : Int) = _
    rw [BitVec.toNat_and, BitVec.toNat_not, ofInt_u64 x hx, ofInt_u64 9223372036854775808 (by omega)]
    rw [show (2 : Nat) ^ 64 = 18446744073709551616 by decide, h2, wrapu _ (by omega)]
  rw [h3]; rfl

theorem abs_any (x : Nat) (w : World) (hx : x < 18446744073709551616) : Calls Try.prog 52 #[.float .f64 x] w fun e w' => e = .returned (.float .f64 (x % 9223372036854775808)) ∧ w = w' := by
  have h := andNot_sign x hx
  have H := Lib.hid h; clear h
  go_enter Try.func52, Try.ntmps52
  go_wp2
  go_ret
  exact ⟨ret_float H.out, rfl⟩

/-- math.NaN(): a word of its own. -/
def nanC : Nat := 9221120237041090561
theorem nan_any (w : World) : Calls Try.prog 51 #[] w fun e w' => e = .returned (.float .f64 nanC) ∧ w = w' := by
  go_enter Try.func51, Try.ntmps51
  go_wp2
  go_ret
  exact ⟨rfl, rfl⟩

theorem read_abs {y m : Nat} {g : Bool} {p : Int} (h : Ieee.double.read y = .number g m p) : Ieee.double.read (y % 9223372036854775808) = .number false m p := by
  have hsw : Ieee.double.signWeight = 9223372036854775808 := by decide +kernel
  unfold Ieee.Format.read at h ⊢
  dsimp only at h ⊢
  rw [hsw] at h ⊢
  have k1 : y % 9223372036854775808 / 9223372036854775808 % 2 = 0 := by omega
  have k2 : y % 9223372036854775808 % 9223372036854775808 = y % 9223372036854775808 := by omega
  rw [k1, k2]
  split at h
  · rename_i g1; rw [if_pos g1]; cases h; rfl
  · rename_i g1; rw [if_neg g1]
    split at h
    · rename_i g2; rw [if_pos g2]; cases h; rfl
    · split at h <;> cases h

/-- A finite single, widened: its number, and no draw. -/
structure Wid (x y : Nat) (g : Bool) (m : Nat) (p : Int) : Prop where
  rd : Ieee.double.read y = .number g m p
  m53 : m < 2 ^ 53
  p0 : -1074 ≤ p
  lt : y < 18446744073709551616
  cres : ∀ w, cres .f32 .f64 w x = y
  ccnt : ccnt .f32 .f64 x = 0

theorem wid_of {x : Nat} {g : Bool} {m : Nat} {p : Int} (hr : Ieee.single.read x = .number g m p) (h1 : m < 16777216) (h2 : -149 ≤ p) (h3 : p ≤ 104) : ∃ m' p', Wid x (fconv .f32 .f64 x) g m' p' := by
  have hd : FloatKind.f32.decode x = .number g m p := hr
  have ho := conv_open x
  unfold tooGreat at ho
  rw [if_neg (by decide), hd] at ho
  have hf : fconv .f32 .f64 x = Ieee.double.nearest g m p := by
    unfold fconv
    rw [if_neg (by decide), hd]; rfl
  have hc : ∀ w, Flo.cres .f32 .f64 w x = fconv .f32 .f64 x := by
    intro w
    unfold Flo.cres fconv
    rw [if_neg (by decide), if_neg (by decide), hd]
    simp only at ho ⊢
    rw [ho]; exact if_neg (by decide)
  have hcc : Flo.ccnt .f32 .f64 x = 0 := by
    unfold Flo.ccnt
    rw [if_neg (by decide), hd]
    simp only at ho ⊢
    rw [ho]; exact if_neg (by decide)
  have hlt : fconv .f32 .f64 x < 18446744073709551616 := by rw [hf]; exact Ieee.Format.nearest_lt _ _ _ _
  by_cases hm : m = 0
  · subst hm
    have e : Ieee.double.read (fconv .f32 .f64 x) = .number g 0 (-1074) := by
      rw [hf, nearest_zero, read_zero, Fb.dbl.1]
    exact ⟨0, -1074, e, by decide, by decide, hlt, hc, hcc⟩
  · obtain ⟨hrd, _⟩ := conv_read g m p hm h1 h2 h3
    rw [← hf] at hrd
    refine ⟨_, _, hrd, ?_, by omega, hlt, hc, hcc⟩
    have hlog : m.log2 < 24 := (Nat.log2_lt hm).2 (by omega)
    have h4 : m < 2 ^ (m.log2 + 1) := Nat.lt_log2_self
    have : m * 2 ^ (52 - m.log2) < 2 ^ (m.log2 + 1) * 2 ^ (52 - m.log2) := Nat.mul_lt_mul_of_pos_right h4 (Nat.two_pow_pos _)
    rw [← Nat.pow_add, show m.log2 + 1 + (52 - m.log2) = 53 by omega] at this
    exact this

theorem sub_self {y m : Nat} {g : Bool} {p : Int} (h : Ieee.double.read y = .number g m p) : floatBits .sub .f64 y y = some 0 := by
  show Ieee.double.sub y y = some 0
  unfold Ieee.Format.sub
  rw [h]
  have hs : ∀ u, Ieee.signed g m u + Ieee.signed (!g) m u = 0 := by intro u; unfold Ieee.signed; cases g <;> simp <;> omega
  show Option.map Ieee.double.write (some (.number (if Ieee.signed g m (p - min p p).toNat + Ieee.signed (!g) m (p - min p p).toNat = 0 then g && !g else _) _ _)) = _
  rw [hs, if_pos rfl]
  have : (g && !g) = false := by cases g <;> rfl
  rw [this]
  show some (Ieee.double.nearest false 0 _) = _
  rw [nearest_zero]; rfl

def scalC : Int := scal false 4503599627370496 0
theorem scalC_pos : 0 < scalC := by decide +kernel

/-- Is the number at least 2 ^ 52 far from 0. -/
def bigB (m : Nat) (p : Int) : Bool := decide (scalC ≤ scal false m p)

theorem scal_neg (m : Nat) (p : Int) : scal true m p = -scal false m p := by unfold scal Ieee.signed; simp

theorem ge_cmp (a b : Int) : (some (compare a b) == some Ordering.gt || some (compare a b) == some Ordering.eq) = decide (b ≤ a) := by
  rcases Int.lt_trichotomy a b with h | h | h
  · rw [Int.compare_eq_lt.2 h, decide_eq_false (by omega)]; rfl
  · subst h; rw [Int.compare_eq_eq.2 rfl, decide_eq_true (by omega)]; rfl
  · rw [Int.compare_eq_gt.2 h, decide_eq_true (by omega)]; rfl
theorem le_cmp (a b : Int) : (some (compare a b) == some Ordering.lt || some (compare a b) == some Ordering.eq) = decide (a ≤ b) := by
  rcases Int.lt_trichotomy a b with h | h | h
  · rw [Int.compare_eq_lt.2 h, decide_eq_true (by omega)]; rfl
  · subst h; rw [Int.compare_eq_eq.2 rfl, decide_eq_true (by omega)]; rfl
  · rw [Int.compare_eq_gt.2 h, decide_eq_false (by omega)]; rfl

theorem tests {x y : Nat} {g : Bool} {m : Nat} {p : Int} (h : Wid x y g m p) :
    (FloatKind.f64.format.order (y % 9223372036854775808) 4841369599423283200 == some .gt || FloatKind.f64.format.order (y % 9223372036854775808) 4841369599423283200 == some .eq) = bigB m p ∧
    (FloatKind.f64.format.order y 4841369599423283200 == some .gt || FloatKind.f64.format.order y 4841369599423283200 == some .eq) = (!g && bigB m p) ∧
    (FloatKind.f64.format.order y 14064741636278059008 == some .lt || FloatKind.f64.format.order y 14064741636278059008 == some .eq) = (g && bigB m p) := by
  have hc : Ieee.double.read 4841369599423283200 = .number false 4503599627370496 0 := by decide +kernel
  have hc2 : Ieee.double.read 14064741636278059008 = .number true 4503599627370496 0 := by decide +kernel
  have hX : 0 ≤ scal false m p := by unfold scal Ieee.signed; rw [if_neg (by decide)]; exact Int.natCast_nonneg _
  have hC := scalC_pos
  have hf : ∀ a b, FloatKind.f64.format.order a b = (Ieee.double.read a).order (Ieee.double.read b) := fun _ _ => rfl
  have hp := h.p0
  have e1 : scal true 4503599627370496 0 = -scalC := by rw [scal_neg]; rfl
  have e0 : scal false 4503599627370496 0 = scalC := rfl
  unfold bigB
  rw [hf, hf, hf, read_abs h.rd, h.rd, hc, hc2, order_number _ _ _ _ _ _ (by omega) (by decide), order_number _ _ _ _ _ _ (by omega) (by decide), order_number _ _ _ _ _ _ (by omega) (by decide), ge_cmp, ge_cmp, le_cmp, e0, e1]
  have hg : scal g m p = if g then -scal false m p else scal false m p := by cases g; rfl; exact scal_neg m p
  rw [hg]
  generalize scal false m p = X at *
  generalize scalC = C at *
  refine ⟨rfl, ?_, ?_⟩
  · cases g
    · simp
    · simp; omega
  · cases g
    · simp; omega
    · simp

theorem small_of {x y : Nat} {g : Bool} {m : Nat} {p : Int} (h : Wid x y g m p) (hb : bigB m p = false) : ∃ d : Nat, 0 < d ∧ p = -(d : Int) ∧ m / 2 ^ d < 2 ^ 53 := by
  have hneg : p < 0 := by
    refine place_neg h.rd ?_
    by_cases hp : p < 0
    · exact .inr hp
    · left
      unfold bigB at hb
      have hb' := of_decide_eq_false hb
      obtain ⟨b, hb3⟩ : ∃ b, b = 3000 := ⟨_, rfl⟩
      have e1 : scal false m p = Ieee.signed false m p.toNat * (2 ^ b : Nat) := by
        unfold scal; rw [← signed_mul]; congr 1; omega
      have e2 : scalC = Ieee.signed false 4503599627370496 0 * (2 ^ b : Nat) := by
        unfold scalC scal; rw [← signed_mul]; congr 1; omega
      have hT : 0 < 2 ^ b := Nat.two_pow_pos b
      rw [e1, e2] at hb'
      clear e1 e2 hb3
      generalize 2 ^ b = T at *
      have e3 : Ieee.signed false m p.toNat = ((m * 2 ^ p.toNat : Nat) : Int) := by unfold Ieee.signed; rw [if_neg (by decide), Nat.shiftLeft_eq]
      have e4 : Ieee.signed false 4503599627370496 0 = 4503599627370496 := by decide +kernel
      rw [e3, e4] at hb'
      have h5 : ((m * 2 ^ p.toNat : Nat) : Int) * (T : Int) < 4503599627370496 * (T : Int) := by omega
      have h6 := Int.lt_of_mul_lt_mul_right h5 (by omega)
      show m * 2 ^ p.toNat < 4503599627370496
      generalize m * 2 ^ p.toNat = X at *
      omega
  refine ⟨(-p).toNat, by omega, by omega, Nat.lt_of_le_of_lt (Nat.div_le_self _ _) h.m53⟩

/-- A 32-bit word's contract: the value is like V, the world is as it was but for draws. -/
def F32 (V : Nat) (w : World) (e : Ending) (w' : World) : Prop := ∃ z, e = .returned (.float .f32 z) ∧ Like .f32 z V ∧ Dr w w'
theorem F32.mk {V z : Nat} {w w' : World} (h : Like .f32 z V) (hd : Dr w w') : F32 V w (.returned (.float .f32 z)) w' := ⟨z, rfl, h, hd⟩

theorem order_nan_left {x y : Nat} (h : isNaN .f64 x = true) : FloatKind.f64.format.order x y = none := by
  obtain ⟨s, t, e⟩ := decode_nan h
  have e' : FloatKind.f64.format.read x = .nan s t := e
  unfold Ieee.Format.order
  rw [e']; rfl
theorem order_nan_left32 {x y : Nat} (h : isNaN .f32 x = true) : FloatKind.f32.format.order x y = none := by
  obtain ⟨s, t, e⟩ := decode_nan h
  have e' : FloatKind.f32.format.read x = .nan s t := e
  unfold Ieee.Format.order
  rw [e']; rfl

/-- x - x of what is no number. -/
theorem sub_nonum {k : FloatKind} {x : Nat} (h : ∀ g m p, k.format.read x ≠ .number g m p) : floatBits .sub k x x = none := by
  show k.format.sub x x = none
  unfold Ieee.Format.sub
  cases hr : k.format.read x with
  | number g m p => exact absurd hr (h g m p)
  | infinity g => cases g <;> rfl
  | nan g t => rfl
theorem fres_none {op : BinOp} {k : FloatKind} {w : World} {x y : Nat} (h : floatBits op k x y = none) : isNaN k (fres op k w x y) = true := by
  unfold fres; rw [h]; exact nan_cut k x y _

/-- What a number that is none becomes when it is widened. -/
theorem wide_nonum {x : Nat} {w : World} (h : ∀ g m p, Ieee.single.read x ≠ .number g m p) : ∀ g m p, Ieee.double.read (cres .f32 .f64 w x) ≠ .number g m p := by
  intro g m p he
  have hl := like_cres (w := w) (conv_open x)
  have hv := conv_val x
  rcases read32 x with ⟨g', t, e⟩ | ⟨g', e⟩ | ⟨g', m', p', e, _⟩
  · have hn : isNaN .f32 x = true := by unfold isNaN; show (Ieee.single.read x).isNaN = true; rw [e]; rfl
    have : isNaN .f64 (cres .f32 .f64 w x) = true := by
      rw [nan_of_like hl, isNaN_conv]; exact hn
    unfold isNaN at this
    have hd : FloatKind.f64.decode (cres .f32 .f64 w x) = .number g m p := he
    rw [hd] at this; cases this
  · have hn : isNaN .f32 x = false := by unfold isNaN; show (Ieee.single.read x).isNaN = false; rw [e]; rfl
    have hc : cres .f32 .f64 w x = fconv .f32 .f64 x := by
      rcases hl with h1 | h1
      · exact h1
      · have := isNaN_conv x; rw [h1.2, hn] at this; cases this
    have hd : FloatKind.f64.decode (fconv .f32 .f64 x) = .number g m p := by rw [← hc]; exact he
    have hd2 : FloatKind.f32.decode x = .infinity g' := e
    rw [hd, hd2] at hv
    cases hv
  · exact absurd e (h g' m' p')

theorem nanC_nan : isNaN .f64 nanC = true := by decide +kernel
theorem nanC_open : tooGreat .f64 .f32 nanC = false := by decide +kernel
theorem zero_open : tooGreat .f64 .f32 0 = false := by decide +kernel
theorem zero_conv : fconv .f64 .f32 0 = 0 := by decide +kernel

set_option maxHeartbeats 2000000 in
/-- The reference's and the program's sine have one value. -/
theorem sine_both (x : Nat) : ∃ V, (∀ w, Calls Try.prog 49 #[.float .f32 x] w (F32 V w)) ∧ (∀ w, Calls Try.prog 24 #[.float .f32 x] w (F32 V w)) := by
  by_cases hnum : ∃ g m p, Ieee.single.read x = .number g m p ∧ m < 16777216 ∧ -149 ≤ p ∧ p ≤ 104
  · obtain ⟨g, m, p, hr, h1, h2, h3⟩ := hnum
    obtain ⟨m', p', hw⟩ := wid_of hr h1 h2 h3
    have hfin : floatBits .sub .f32 x x = some 0 := by
      show Ieee.single.sub x x = some 0
      unfold Ieee.Format.sub
      rw [hr]
      have hs : ∀ u, Ieee.signed g m u + Ieee.signed (!g) m u = 0 := by intro u; unfold Ieee.signed; cases g <;> simp <;> omega
      show Option.map Ieee.single.write (some (.number (if Ieee.signed g m (p - min p p).toNat + Ieee.signed (!g) m (p - min p p).toNat = 0 then g && !g else _) _ _)) = _
      rw [hs, if_pos rfl]
      have : (g && !g) = false := by cases g <;> rfl
      rw [this]
      show some (Ieee.single.nearest false 0 _) = _
      rw [nearest_zero]; rfl
    have hf1 : ∀ w, fres .sub .f32 w x x = 0 := by intro w; unfold fres; rw [hfin]; rfl
    have hf2 : fcnt .sub .f32 x x = 0 := by unfold fcnt; rw [hfin]; rfl
    have hf3 : (FloatKind.f32.format.order 0 0 == some .eq) = true := by decide +kernel
    obtain ⟨t1, t2, t3⟩ := tests hw
    have hc1 := hw.cres
    have hc2 := hw.ccnt
    have hlt := hw.lt
    have hyy := sub_self hw.rd
    cases hb : bigB m' p' with
    | true =>
      refine ⟨0, fun w => ?_, fun w => ?_⟩
      · obtain ⟨y1, y2⟩ := opf hyy
        have o00 : (FloatKind.f64.format.order 0 0 != some .eq) = false := by decide +kernel
        rw [hb] at t2 t3
        clear t1 hf1 hf2 hf3 hfin hyy hr hw
        generalize fconv .f32 .f64 x = y at *
        have big : ∀ w, Calls Try.prog 72 #[.float .f64 y] w fun e w' => e = .returned (.float .f64 0) ∧ w = w' := by
          intro w
          cases g
          · have t2' : (FloatKind.f64.format.order y 4841369599423283200 == some .gt || FloatKind.f64.format.order y 4841369599423283200 == some .eq) = true := t2
            clear t2 t3
            go_enter Try.func72, Try.ntmps72
            go_wp2
            go_ret
            exact ⟨rfl, rfl⟩
          · have t2' : (FloatKind.f64.format.order y 4841369599423283200 == some .gt || FloatKind.f64.format.order y 4841369599423283200 == some .eq) = false := t2
            have t3' : (FloatKind.f64.format.order y 14064741636278059008 == some .lt || FloatKind.f64.format.order y 14064741636278059008 == some .eq) = true := t3
            clear t2 t3
            go_enter Try.func72, Try.ntmps72
            go_wp2
            go_ret
            exact ⟨rfl, rfl⟩
        clear t2 t3 y1 y2
        go_enter Try.func49, Try.ntmps49
        go_wp2_with (first
          | (go_at_call 72; refine (big _).mono ?_; rintro e w' ⟨rfl, rfl⟩)
          | (go_at_call 69; refine (l01Narrow_any 0 0 _ (.refl _ _) zero_open).mono ?_; rintro e w' ⟨z, rfl, hz, hd⟩))
        go_ret
        exact F32.mk (by rw [zero_conv] at hz; exact hz) hd
      · rw [hb] at t1
        clear t2 t3 hyy hr hw hfin
        generalize fconv .f32 .f64 x = y at *
        go_enter Try.func24, Try.ntmps24
        go_wp2_with (first
          | (go_at_call 50; go_in)
          | (go_at_call 52; refine (abs_any y _ hlt).mono ?_; rintro e w' ⟨rfl, rfl⟩))
        go_ret
        exact F32.mk (.refl _ _) (.refl _)
    | false =>
      obtain ⟨d, hd0, rfl, hm53⟩ := small_of hw hb
      obtain ⟨I, f0, hT⟩ := tn_of hw.rd hd0 hm53
      have hopen := narrow_bd (sinF_bd (fr1_bd hT.bd).2) (by decide)
      refine ⟨fconv .f64 .f32 (sinF (fr1 f0)), fun w => ?_, fun w => ?_⟩
      · rw [hb] at t2 t3
        rw [Bool.and_false] at t2 t3
        clear t1 hf1 hf2 hf3 hfin hr hw
        generalize fconv .f32 .f64 x = y at *
        go_enter Try.func49, Try.ntmps49
        go_wp2_with (first
          | (go_at_call 72; refine (l01SineWide_any y I f0 hT _ hyy t2 t3).mono ?_; rintro e w' ⟨rfl, rfl⟩)
          | (go_at_call 69; refine (l01Narrow_any _ _ _ (.refl _ _) hopen).mono ?_; rintro e w' ⟨z, rfl, hz, hd⟩))
        go_ret
        exact F32.mk hz hd
      · rw [hb] at t1
        clear t2 t3 hyy hr hw hfin
        generalize fconv .f32 .f64 x = y at *
        go_enter Try.func24, Try.ntmps24
        go_wp2_with (first
          | (go_at_call 50; go_in)
          | (go_at_call 52; refine (abs_any y _ hlt).mono ?_; rintro e w' ⟨rfl, rfl⟩)
          | (go_at_call 53; refine (sine_any y I f0 hT _).mono ?_; rintro e w' ⟨rfl, rfl⟩))
        go_ret
        exact F32.mk (like_narrow (.refl _ _) hopen) ⟨_, rfl⟩
  · have hno : ∀ g m p, Ieee.single.read x ≠ .number g m p := by
      intro g m p e
      rcases read32 x with ⟨g', t, e'⟩ | ⟨g', e'⟩ | ⟨g', m', p', e', h⟩
      · rw [e] at e'; cases e'
      · rw [e] at e'; cases e'
      · exact hnum ⟨g', m', p', e', h⟩
    refine ⟨fconv .f64 .f32 nanC, fun w => ?_, fun w => ?_⟩
    · have wide : ∀ y w, (∀ g m p, Ieee.double.read y ≠ .number g m p) → Calls Try.prog 72 #[.float .f64 y] w fun e w' => e = .returned (.float .f64 nanC) ∧ Dr w w' := by
        intro y w hy
        have hn : ∀ w, (FloatKind.f64.format.order (fres .sub .f64 w y y) 0 != some .eq) = true := by
          intro w
          rw [order_nan_left (fres_none (sub_nonum (k := .f64) hy))]; rfl
        clear hy
        go_enter Try.func72, Try.ntmps72
        go_wp2_with (go_at_call 51; refine (nan_any _).mono ?_; rintro e w' ⟨rfl, rfl⟩)
        go_ret
        exact ⟨rfl, _, rfl⟩
      have hw2 : ∀ w, ∀ g m p, Ieee.double.read (cres .f32 .f64 w x) ≠ .number g m p := fun w => wide_nonum hno
      have HW := Lib.hid hw2; have HWI := Lib.hid wide
      clear hw2 wide hno hnum
      go_enter Try.func49, Try.ntmps49
      go_wp2_with (first
        | (go_at_call 72; refine (HWI.out _ _ (HW.out _)).mono ?_; rintro e w' ⟨rfl, n1, rfl⟩)
        | (go_at_call 69; refine (l01Narrow_any _ _ _ (.refl _ _) nanC_open).mono ?_; rintro e w' ⟨z, rfl, hz, n2, rfl⟩))
      go_ret
      exact F32.mk hz (by first | exact ⟨_, rfl⟩ | exact (((Dr.one _ _).drewN _).drewN _))
    · have hn : ∀ w, (FloatKind.f32.format.order (fres .sub .f32 w x x) 0 == some .eq) = false := by
        intro w
        rw [order_nan_left32 (fres_none (sub_nonum (k := .f32) hno))]; rfl
      clear hno hnum
      go_enter Try.func24, Try.ntmps24
      go_wp2_with (first
        | (go_at_call 50; go_in)
        | (go_at_call 51; refine (nan_any _).mono ?_; rintro e w' ⟨rfl, rfl⟩))
      go_ret
      exact F32.mk (like_narrow (.refl _ _) nanC_open) (by first | exact ⟨_, rfl⟩ | exact (((Dr.one _ _).drewN _).drewN _))

theorem sineTurns_walk (x : Nat) (w : World) (_ : (Lit.float .f32 x).wf = true) : Calls Try.prog 6 #[.float .f32 x] w fun e w' => e = .returned (.bool true) ∧ Below w.heap.size w w' := by
  obtain ⟨V, hs, hi⟩ := sine_both x
  have spec : ∀ w, Calls Try.prog 23 #[.float .f32 x] w (F32 V w) := by
    intro w
    go_enter Try.func23, Try.ntmps23
    go_wp2_with (go_at_call 49; refine (hs _).mono ?_; rintro e w' ⟨z, rfl, hz, hd⟩)
    go_ret
    exact F32.mk hz hd
  have HS := Lib.hid spec; have HI := Lib.hid hi
  clear hs hi spec
  go_enter Try.func6, Try.ntmps6
  go_wp2_with (first
    | (go_at_call 23; refine (HS.out _).mono ?_; rintro e w' ⟨z1, rfl, hz1, n1, rfl⟩; have H1 := Lib.hid hz1; clear hz1)
    | (go_at_call 24; refine (HI.out _).mono ?_; rintro e w' ⟨z2, rfl, hz2, n2, rfl⟩; have H2 := Lib.hid hz2; clear hz2)
    | (go_at_call 17; refine (sameFloat_like _ _ _ (like_conv2 (H2.out.trans H1.out.symm))).mono ?_; rintro e w' ⟨rfl, n3, rfl⟩))
  go_ret
  exact ⟨rfl, by first | exact below_drewN (Below.refl _ _) _ | exact below_drewN (below_drewN (Below.refl _ _) _) _⟩
end Go.Proofs.Ytbphigmpcjodkaa
