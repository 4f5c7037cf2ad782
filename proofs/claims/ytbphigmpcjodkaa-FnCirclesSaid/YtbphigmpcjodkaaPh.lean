/-
  Plain mathematics: the quarters of a turn, word by word. Conditions: none.
-/
import Derived.Test.YtbphigmpcjodkaaLog
import Derived.Test.YtbphigmpcjodkaaSn
set_option linter.unusedVariables false
set_option linter.unusedSimpArgs false
namespace Fb
open Ieee Go

/-- Is a number at least a quarter? -/
def geQ (f : Nat) : Bool := double.order f Wquarter == some .gt || double.order f Wquarter == some .eq

theorem read_Q : double.read Wquarter = .number false 4503599627370496 (-54) := by decide +kernel

theorem ge_cmpQ (a b : Int) : (some (compare a b) == some Ordering.gt || some (compare a b) == some Ordering.eq) = decide (b ≤ a) := by
  rcases Int.lt_trichotomy a b with h | h | h
  · rw [Int.compare_eq_lt.2 h, decide_eq_false (by omega)]; rfl
  · subst h; rw [Int.compare_eq_eq.2 rfl, decide_eq_true (by omega)]; rfl
  · rw [Int.compare_eq_gt.2 h, decide_eq_true (by omega)]; rfl

theorem geQ_num {w m : Nat} {s : Bool} {p : Int} (h : double.read w = .number s m p) :
    geQ w = decide (signed false 4503599627370496 (-54 - min p (-54)).toNat ≤ signed s m (p - min p (-54)).toNat) := by
  unfold geQ Format.order
  rw [h, read_Q]
  unfold Datum.order
  exact ge_cmpQ _ _

theorem signed_pos (m u : Nat) : signed false m u = ((m * 2 ^ u : Nat) : Int) := by unfold signed; rw [Nat.shiftLeft_eq, if_neg (by decide)]
theorem signed_neg (m u : Nat) : signed true m u = -((m * 2 ^ u : Nat) : Int) := by unfold signed; rw [Nat.shiftLeft_eq, if_pos rfl]

/-- A positive word below a quarter's. -/
theorem geQ_low {w : Nat} (h : w < 4598175219545276416) : geQ w = false := by
  obtain ⟨hL, hF, hB, hI, hS⟩ := dblc
  by_cases hs : w < 4503599627370496
  · have hr := read_word good_double false (r := w) (by omega)
    have hw : double.word false w = w := rfl
    rw [hw, hB, if_pos hs, hL] at hr
    rw [geQ_num hr, signed_pos, signed_pos]
    have h1 : ((-1074 : Int) - min (-1074) (-54)).toNat = 0 := by decide
    obtain ⟨k, hk⟩ : ∃ k, ((-54 : Int) - min (-1074) (-54)).toNat = k := ⟨_, rfl⟩
    rw [h1, hk, Nat.pow_zero, Nat.mul_one]
    have h3 : 4503599627370496 ≤ 4503599627370496 * 2 ^ k := Nat.le_mul_of_pos_right _ (Nat.two_pow_pos _)
    generalize 4503599627370496 * 2 ^ k = X at *
    exact decide_eq_false (by omega)
  · have hr := read_pos (r := w) (by omega) (by omega)
    have hp : ((w / 4503599627370496 : Nat) : Int) - 1075 ≤ -55 := by omega
    have hm : 4503599627370496 + w % 4503599627370496 < 9007199254740992 := by omega
    generalize ((w / 4503599627370496 : Nat) : Int) - 1075 = p at *
    generalize 4503599627370496 + w % 4503599627370496 = m at *
    rw [geQ_num hr, signed_pos, signed_pos]
    have h1 : (p - min p (-54)).toNat = 0 := by omega
    obtain ⟨k, hk⟩ : ∃ k, ((-54 : Int) - min p (-54)).toNat = k + 1 := ⟨(-54 - min p (-54)).toNat - 1, by omega⟩
    rw [h1, hk, Nat.pow_zero, Nat.mul_one, Nat.pow_succ]
    have h3 : 9007199254740992 ≤ 4503599627370496 * (2 ^ k * 2) := by have := Nat.two_pow_pos k; omega
    generalize 4503599627370496 * (2 ^ k * 2) = X at *
    exact decide_eq_false (by omega)

theorem read_sign {w m : Nat} {s : Bool} {p : Int} (h : double.read w = .number s m p) : s = (w / 9223372036854775808 % 2 == 1) := by
  obtain ⟨hL, hF, hB, hI, hS⟩ := dblc
  unfold Format.read at h
  dsimp only at h
  rw [hS] at h
  split at h
  · injection h with h1; exact h1.symm
  · split at h
    · injection h with h1; exact h1.symm
    · split at h <;> cases h

/-- A number's parts, as they are read. -/
theorem read_shape {w m : Nat} {s : Bool} {p : Int} (h : double.read w = .number s m p) : m < 9007199254740992 ∧ (m < 4503599627370496 ∧ p = -1074 ∨ 4503599627370496 ≤ m ∧ -1074 ≤ p) := by
  obtain ⟨hL, hF, hB, hI, hS⟩ := dblc
  unfold Format.read at h
  dsimp only at h
  rw [hS, hB, hI, hL] at h
  split at h
  · rename_i g
    injection h with h1 h2 h3
    omega
  · split at h
    · rename_i g1 g2
      injection h with h1 h2 h3
      omega
    · split at h <;> cases h

theorem geQ_neg {w : Nat} (hw : w < 18446744073709551616) (h : 9223372036854775808 ≤ w) (hb : Bd double 2 w) : geQ w = false := by
  obtain ⟨s, m, p, hr, _⟩ := hb
  have hs := read_sign hr
  have h1 : w / 9223372036854775808 % 2 = 1 := by omega
  rw [h1] at hs
  have hs' : s = true := by rw [hs]; rfl
  subst hs'
  rw [geQ_num hr, signed_pos, signed_neg]
  have := Nat.two_pow_pos ((-54 : Int) - min p (-54)).toNat
  exact decide_eq_false (by omega)

/-- A positive word of at most 4. -/
theorem word_four {w : Nat} (hw : w < 9223372036854775808) (hb : Bd double 2 w) : w ≤ 4616189618054758400 := by
  obtain ⟨hL, hF, hB, hI, hS⟩ := dblc
  obtain ⟨s, m, p, hr, hle⟩ := hb
  by_cases hlt : w ≤ 4616189618054758400
  · exact hlt
  · exfalso
    by_cases hi : w < 9218868437227405312
    · have hr2 := read_pos (r := w) (by omega) hi
      rw [hr] at hr2
      injection hr2 with h1 h2 h3
      unfold Le at hle
      have hp : -50 ≤ p := by omega
      have h4 : (2 - p).toNat ≤ 52 := by omega
      have h5 : 2 ^ (2 - p).toNat ≤ 2 ^ 52 := Nat.pow_le_pow_right (by decide) h4
      have h6 : m * 1 ≤ m * 2 ^ (p - 2).toNat := Nat.mul_le_mul_left _ (Nat.two_pow_pos _)
      have h7 : m ≤ 4503599627370496 := by omega
      by_cases h8 : p = -50
      · omega
      · have h9 : (2 - p).toNat ≤ 51 := by omega
        have h10 : 2 ^ (2 - p).toNat ≤ 2 ^ 51 := Nat.pow_le_pow_right (by decide) h9
        omega
    · unfold Format.read at hr
      dsimp only at hr
      rw [hS, hB, hI] at hr
      rw [if_neg (by omega), if_neg (by omega)] at hr
      split at hr <;> cases hr

theorem bd_word {w : Nat} (h : w ≤ 4616189618054758400) : Bd double 2 w := by
  obtain ⟨hL, hF, hB, hI, hS⟩ := dblc
  have e : rungOf double 2 = 4616189618054758400 := by unfold rungOf; rw [hL, hF, hB]; decide
  have := word_bd good_double false (r := w) (e := 2) (by rw [hL, hF]; decide) (by rw [e]; exact h) (by rw [e, hI]; decide)
  exact this

/-- The difference, where it is above 0. -/
theorem sub_Q {w m : Nat} {p : Int} (h : double.read w = .number false m p) (D : Nat) (hD : signed false m (p - min p (-54)).toNat + signed true 4503599627370496 (-54 - min p (-54)).toNat = (D : Int)) :
    floatBits .sub .f64 w Wquarter = some (double.nearest false D (min p (-54))) := by
  show double.sub w Wquarter = _
  unfold Format.sub
  rw [h, read_Q]
  unfold Datum.sum Datum.opposite
  simp only [Bool.not_false, hD]
  have h0 : ¬ ((D : Nat) : Int) < 0 := by omega
  by_cases h00 : ((D : Nat) : Int) = 0
  · rw [if_pos h00]
    have : D = 0 := by omega
    subst this
    rfl
  · rw [if_neg h00, decide_eq_false h0]
    rfl

theorem q_step {w : Nat} (hw : w ≤ 4616189618054758400) (hq : geQ w = true) : ∃ w', floatBits .sub .f64 w Wquarter = some w' ∧ w' < w := by
  have hlo : 4598175219545276416 ≤ w := by
    by_cases h : w < 4598175219545276416
    · rw [geQ_low h] at hq; cases hq
    · omega
  have hr := read_pos (r := w) (by omega) (by omega)
  have hE : w / 4503599627370496 = 1021 ∨ w / 4503599627370496 = 1022 ∨ w / 4503599627370496 = 1023 ∨ w / 4503599627370496 = 1024 ∨ w / 4503599627370496 = 1025 := by omega
  have hwt : w = w / 4503599627370496 * 4503599627370496 + w % 4503599627370496 := by omega
  have ht : w % 4503599627370496 < 4503599627370496 := by omega
  generalize w % 4503599627370496 = t at *
  rcases hE with hE | hE
  · rw [hE] at hr hwt
    refine ⟨_, sub_Q hr t ?_, ?_⟩
    · rw [signed_pos, signed_neg]
      show ((((4503599627370496 + t) * 2 ^ 0 : Nat) : Int)) + -((4503599627370496 * 2 ^ 0 : Nat) : Int) = _
      omega
    · show double.nearest false t (-54) < w
      by_cases h0 : t = 0
      · subst h0
        have : double.nearest false 0 (-54) = 0 := by decide +kernel
        omega
      · obtain ⟨hL, hF, hB, hI, hS⟩ := dblc
        have hle : Le t (-54) (-2) := by
          unfold Le
          show t * 2 ^ 0 ≤ 2 ^ 52
          omega
        obtain ⟨r, hr1, hr2⟩ := rung_le (f := double) (neg := false) hle (by rw [hL, hF]; decide)
        have e : rungOf double (-2) = 4598175219545276416 := by unfold rungOf; rw [hL, hF, hB]; decide
        rw [e] at hr2
        have e2 : double.word false r = r := rfl
        rw [hr1, e2]
        omega
  · have key : ∀ d : Nat, 1 ≤ d → d ≤ 4 → w / 4503599627370496 = 1021 + d → ∃ w', floatBits .sub .f64 w Wquarter = some w' ∧ w' < w := by
      intro d d1 d2 hd
      rw [hd] at hr hwt
      obtain ⟨B, hB⟩ : ∃ B, 2 ^ d * B = 4503599627370496 ∧ B ≤ 2251799813685248 := by
        rcases (by omega : d = 1 ∨ d = 2 ∨ d = 3 ∨ d = 4) with rfl | rfl | rfl | rfl
        · exact ⟨2251799813685248, by decide, by decide⟩
        · exact ⟨1125899906842624, by decide, by decide⟩
        · exact ⟨562949953421312, by decide, by decide⟩
        · exact ⟨281474976710656, by decide, by decide⟩
      obtain ⟨hB1, hB2⟩ := hB
      have hB0 : 0 < B := by
        rcases Nat.eq_zero_or_pos B with h | h
        · subst h; simp at hB1
        · exact h
      have hmin : min (((1021 + d : Nat) : Int) - 1075) (-54) = -54 := by omega
      obtain ⟨K, hK⟩ : ∃ K, K + B = 4503599627370496 + t := ⟨4503599627370496 + t - B, by omega⟩
      have hs := sub_Q hr (K * 2 ^ d) (by
        rw [signed_pos, signed_neg, hmin, show (((1021 + d : Nat) : Int) - 1075 - -54).toNat = d by omega, show ((-54 : Int) - -54).toNat = 0 by decide, Nat.pow_zero, Nat.mul_one, ← hK, Nat.add_mul, Nat.mul_comm B, hB1]
        omega)
      rw [hmin] at hs
      by_cases hK2 : 4503599627370496 ≤ K
      · have hn := nearest_pos (m := K * 2 ^ d) (place := -54) (k := 1021 + d) (by omega) K d rfl hK2 (by omega) (by omega) (by omega)
        rw [hn] at hs
        exact ⟨_, hs, by omega⟩
      · obtain ⟨e, rfl⟩ : ∃ e, d = e + 1 := ⟨d - 1, by omega⟩
        have hn := nearest_pos (m := K * 2 ^ (e + 1)) (place := -54) (k := 1021 + e) (by omega) (2 * K) e (by rw [Nat.pow_succ, Nat.mul_comm 2 K, Nat.mul_assoc, Nat.mul_comm 2]) (by omega) (by omega) (by omega) (by omega)
        rw [hn] at hs
        exact ⟨_, hs, by omega⟩
    rcases hE with hE | hE | hE | hE
    · exact key 1 (by omega) (by omega) hE
    · exact key 2 (by omega) (by omega) hE
    · exact key 3 (by omega) (by omega) hE
    · exact key 4 (by omega) (by omega) hE

/-- After j quarters. -/
def qs (w : Nat) : Nat → Nat
  | 0 => w
  | j + 1 => F .sub (qs w j) Wquarter

/-- How the quarters are taken. -/
structure Qs (w J : Nat) : Prop where
  le : J ≤ 4616189618054758400
  step : ∀ j, j < J → geQ (qs w j) = true ∧ floatBits .sub .f64 (qs w j) Wquarter = some (qs w (j + 1)) ∧ qs w (j + 1) < qs w j
  stop : geQ (qs w J) = false
  bd : Bd double 2 (qs w J)
  lt : qs w J < 18446744073709551616

theorem qs_shift (w : Nat) : ∀ j, qs (F .sub w Wquarter) j = qs w (j + 1)
  | 0 => rfl
  | j + 1 => by simp only [qs]; rw [qs_shift w j]; rfl

theorem qs_low : ∀ n w, w ≤ n → w ≤ 4616189618054758400 → ∃ J, J ≤ w ∧ Qs w J
  | n, w, hn, hw => by
    cases hq : geQ w with
    | false => exact ⟨0, Nat.zero_le _, Nat.zero_le _, fun j h => by omega, hq, bd_word hw, by show w < _; omega⟩
    | true =>
      obtain ⟨w', h1, h2⟩ := q_step hw hq
      have hF : F .sub w Wquarter = w' := by unfold F; rw [h1]; rfl
      match n, hn with
      | 0, hn => omega
      | n + 1, hn =>
        obtain ⟨J, hJ, h⟩ := qs_low n w' (by omega) (by omega)
        refine ⟨J + 1, by omega, by omega, fun j hj => ?_, ?_, ?_, ?_⟩
        · cases j with
          | zero => exact ⟨hq, by show floatBits .sub .f64 w Wquarter = some (F .sub w Wquarter); rw [hF]; exact h1, by show F .sub w Wquarter < w; rw [hF]; exact h2⟩
          | succ j =>
            have := h.step j (by omega)
            rw [← hF, qs_shift, qs_shift] at this
            exact this
        · have := h.stop; rw [← hF, qs_shift] at this; exact this
        · have := h.bd; rw [← hF, qs_shift] at this; exact this
        · have := h.lt; rw [← hF, qs_shift] at this; exact this

theorem qs_any {w : Nat} (hw : w < 18446744073709551616) (hb : Bd double 2 w) : ∃ J, Qs w J := by
  by_cases h : w < 9223372036854775808
  · obtain ⟨J, _, hJ⟩ := qs_low w w (Nat.le_refl _) (word_four h hb)
    exact ⟨J, hJ⟩
  · exact ⟨0, Nat.zero_le _, fun j h => by omega, geQ_neg (w := w) hw (by omega) hb, hb, hw⟩
end Fb
