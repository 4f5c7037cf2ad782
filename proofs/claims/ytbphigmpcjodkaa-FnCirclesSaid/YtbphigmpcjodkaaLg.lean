/-
  Plain mathematics: the natural logarithm, word by word. Conditions: none.
-/
import Derived.Test.YtbphigmpcjodkaaLog
import Derived.Test.YtbphigmpcjodkaaSn
set_option linter.unusedVariables false
set_option linter.unusedSimpArgs false
namespace Fb
open Ieee Go

/-- How often a word is halved, and doubled. -/
def J1 (y : Nat) : Nat := if 4609434218613702656 ≤ y then (y - 4609434218613702656) / 4503599627370496 + 1 else 0
def J2 (y : Nat) : Nat := if y < 4604930618986332160 then (4604930618986332159 - y) / 4503599627370496 + 1 else 0
def Y1 (y : Nat) : Nat := y - J1 y * 4503599627370496
def Y2 (y : Nat) : Nat := Y1 y + J2 (Y1 y) * 4503599627370496
def Ex (y : Nat) : Int := (J1 y : Int) - (J2 (Y1 y) : Int)

/-- The words of 32-bit numbers above 0. -/
def Wd32 (y : Nat) : Prop := 874 * 4503599627370496 ≤ y ∧ y < 1151 * 4503599627370496

theorem j1_bd {y : Nat} (h : Wd32 y) : J1 y ≤ 129 := by unfold J1; obtain ⟨a, b⟩ := h; split <;> omega
theorem j1_lt {y j : Nat} : j < J1 y ↔ 4609434218613702656 ≤ y - j * 4503599627370496 ∧ j * 4503599627370496 ≤ y := by
  unfold J1; split <;> omega
theorem y1_bd {y : Nat} (h : Wd32 y) : 874 * 4503599627370496 ≤ Y1 y ∧ Y1 y < 4609434218613702656 ∧ (0 < J1 y → 4604930618986332160 ≤ Y1 y) := by
  obtain ⟨a, b⟩ := h
  unfold Y1 J1
  split <;> omega
theorem j2_bd {y : Nat} (h : Wd32 y) : J2 (Y1 y) ≤ 149 := by
  obtain ⟨a, b, _⟩ := y1_bd h
  unfold J2; split <;> omega
theorem j2_zero {y : Nat} (h : Wd32 y) (hj : 0 < J2 (Y1 y)) : J1 y = 0 := by
  obtain ⟨a, b, c⟩ := y1_bd h
  by_cases h0 : J1 y = 0
  · exact h0
  · have := c (by omega)
    unfold J2 at hj
    rw [if_neg (by omega)] at hj
    omega
theorem j2_lt {x j : Nat} : j < J2 x ↔ x + j * 4503599627370496 < 4604930618986332160 := by
  unfold J2; split <;> omega
theorem y2_bd {y : Nat} (h : Wd32 y) : 4604930618986332160 ≤ Y2 y ∧ Y2 y < 4609434218613702656 := by
  obtain ⟨a, b, _⟩ := y1_bd h
  unfold Y2 J2
  split <;> omega

/-- What is between 3/4 and 3/2, less 1. -/
theorem near_one {x : Nat} (h1 : 4604930618986332160 ≤ x) (h2 : x < 4609434218613702656) :
    floatBits .sub .f64 x W1 = some (F .sub x W1) ∧ Bd double (-1) (F .sub x W1) ∧ floatBits .add .f64 x W1 = some (F .add x W1) ∧ (∃ t n j, double.read (F .add x W1) = .number t n j ∧ Ge n j 0) := by
  have hx := read_pos (r := x) (by omega) (by omega)
  have hw : double.read W1 = .number false 4503599627370496 (-52) := by decide +kernel
  have hxb : Bd double 1 x := by
    refine ⟨_, _, _, hx, ?_⟩
    unfold Le
    have : ((x / 4503599627370496 : Nat) : Int) - 1075 = -53 ∨ ((x / 4503599627370496 : Nat) : Int) - 1075 = -52 := by omega
    rcases this with e | e <;> rw [e]
    · show (4503599627370496 + x % 4503599627370496) * 2 ^ 0 ≤ 2 ^ 54; omega
    · show (4503599627370496 + x % 4503599627370496) * 2 ^ 0 ≤ 2 ^ 53; omega
  have hb2 := F_add (e := 2) hxb consts.1 (by decide) (by decide) (by decide) (by decide)
  have hlo : ∃ t n j, double.read (F .add x W1) = .number t n j ∧ Ge n j 0 := by
    -- the sum is at least 1
    have hs : ∃ t : Nat, double.add x W1 = some (double.nearest false t (min (((x / 4503599627370496 : Nat) : Int) - 1075) (-52))) ∧ Ge t (min (((x / 4503599627370496 : Nat) : Int) - 1075) (-52)) 0 ∧ Le t (min (((x / 4503599627370496 : Nat) : Int) - 1075) (-52)) 2 := by
      unfold Format.add
      rw [hx, hw]
      have : ((x / 4503599627370496 : Nat) : Int) - 1075 = -53 ∨ ((x / 4503599627370496 : Nat) : Int) - 1075 = -52 := by omega
      generalize hm : 4503599627370496 + x % 4503599627370496 = m
      rcases this with e | e <;> rw [e]
      · refine ⟨m + 9007199254740992, ?_, ?_, ?_⟩
        · have : signed false m ((-53 : Int) - min (-53) (-52)).toNat + signed false 4503599627370496 ((-52 : Int) - min (-53) (-52)).toNat = ((m + 9007199254740992 : Nat) : Int) := by
            show signed false m 0 + signed false 4503599627370496 1 = _
            unfold signed; rw [Nat.shiftLeft_eq, Nat.shiftLeft_eq, if_neg (by decide), if_neg (by decide)]; omega
          unfold Datum.sum
          simp only [this]
          have h0 : ¬ ((m + 9007199254740992 : Nat) : Int) < 0 := by omega
          have h00 : ¬ ((m + 9007199254740992 : Nat) : Int) = 0 := by omega
          rw [if_neg h00, decide_eq_false h0]
          rfl
        · show 2 ^ 53 ≤ (m + 9007199254740992) * 2 ^ 0; omega
        · unfold Le; rw [show (min (-53 : Int) (-52) - 2).toNat = 0 by decide, show (2 - min (-53 : Int) (-52)).toNat = 55 by decide, Nat.pow_zero, Nat.mul_one, show (2 : Nat) ^ 55 = 36028797018963968 by decide]; clear hxb hb2 e hx hw; omega
      · refine ⟨m + 4503599627370496, ?_, ?_, ?_⟩
        · have : signed false m ((-52 : Int) - min (-52) (-52)).toNat + signed false 4503599627370496 ((-52 : Int) - min (-52) (-52)).toNat = ((m + 4503599627370496 : Nat) : Int) := by
            show signed false m 0 + signed false 4503599627370496 0 = _
            unfold signed; rw [Nat.shiftLeft_eq, Nat.shiftLeft_eq, if_neg (by decide), if_neg (by decide)]; omega
          unfold Datum.sum
          simp only [this]
          have h0 : ¬ ((m + 4503599627370496 : Nat) : Int) < 0 := by omega
          have h00 : ¬ ((m + 4503599627370496 : Nat) : Int) = 0 := by omega
          rw [if_neg h00, decide_eq_false h0]
          rfl
        · show 2 ^ 52 ≤ (m + 4503599627370496) * 2 ^ 0; omega
        · unfold Le; rw [show (min (-52 : Int) (-52) - 2).toNat = 0 by decide, show (2 - min (-52 : Int) (-52)).toNat = 54 by decide, Nat.pow_zero, Nat.mul_one, show (2 : Nat) ^ 54 = 18014398509481984 by decide]; clear hxb hb2 e hx hw; omega
    obtain ⟨t, ht, hge, hle⟩ := hs
    have hF : F .add x W1 = double.nearest false t (min (((x / 4503599627370496 : Nat) : Int) - 1075) (-52)) := by
      unfold F
      have : floatBits .add .f64 x W1 = double.add x W1 := rfl
      rw [this, ht]; rfl
    rw [hF]
    obtain ⟨m, p, h3, h4⟩ := nearest_lo good_double hge (by rw [dbl.1, dbl.2.1]; decide) hle (in_double (by decide) (by decide)).1 (in_double (by decide) (by decide)).2
    exact ⟨false, m, p, h3, h4⟩
  have hsub : ∃ z, double.sub x W1 = some z ∧ Bd double (-1) z := by
    unfold Format.sub
    rw [hx, hw]
    refine ⟨_, rfl, nearest_bd good_double ?_ (in_double (by decide) (by decide)).1 (in_double (by decide) (by decide)).2⟩
    have : ((x / 4503599627370496 : Nat) : Int) - 1075 = -53 ∨ ((x / 4503599627370496 : Nat) : Int) - 1075 = -52 := by omega
    generalize hm : 4503599627370496 + x % 4503599627370496 = m
    rcases this with e | e <;> rw [e]
    · show Le (signed false m 0 + signed true 4503599627370496 1).natAbs (-53) (-1)
      have : signed false m 0 + signed true 4503599627370496 1 = (m : Int) - 9007199254740992 := by unfold signed; simp [Nat.shiftLeft_eq]; omega
      rw [this]
      show ((m : Int) - 9007199254740992).natAbs * 2 ^ 0 ≤ 2 ^ 52
      omega
    · show Le (signed false m 0 + signed true 4503599627370496 0).natAbs (-52) (-1)
      have : signed false m 0 + signed true 4503599627370496 0 = (m : Int) - 4503599627370496 := by unfold signed; simp [Nat.shiftLeft_eq]; omega
      rw [this]
      show ((m : Int) - 4503599627370496).natAbs * 2 ^ 0 ≤ 2 ^ 51
      omega
  obtain ⟨z, hz, hb⟩ := hsub
  have hz' : floatBits .sub .f64 x W1 = some z := hz
  refine ⟨by unfold F; rw [hz']; rfl, by unfold F; rw [hz']; exact hb, hb2.1, hlo⟩

/-- 25, 23, .., 1, -1. -/
def Ko (j : Nat) : Nat := cnt (25 - 2 * (j : Int))
def Co (j : Nat) : Nat := F .quo W1 (Ko j)
theorem ko_step : ∀ j, j < 13 → floatBits .sub .f64 (Ko j) 4611686018427387904 = some (Ko (j + 1)) ∧ floatBits .quo .f64 4607182418800017408 (Ko j) = some (Co j) ∧ bdB 0 (Co j) = true := by decide +kernel
theorem ko_test : ∀ j, j < 14 → (double.order (Ko j) 4607182418800017408 == some .gt || double.order (Ko j) 4607182418800017408 == some .eq) = decide (j < 13) := by decide +kernel
theorem ko_int : ∀ j : Nat, j < 13 → floatOfInt .f64 (25 - 2 * (j : Int)) = Ko j := by intro j _; rfl
theorem cnt_bd : ∀ j, j < 200 → bdB 8 (cnt (j : Nat)) = true ∧ bdB 8 (cnt (-(j : Nat))) = true := by decide +kernel

/-- The series after j terms. -/
def lq (u : Nat) : Nat → Nat
  | 0 => 0
  | j + 1 => F .add (Co j) (F .mul u (lq u j))

theorem lq_step {u : Nat} (hu : Bd double (-2) u) (j : Nat) (hj : j < 13) (h : Bd double 1 (lq u j)) :
    (floatBits .mul .f64 u (lq u j) = some (F .mul u (lq u j)) ∧ floatBits .add .f64 (Co j) (F .mul u (lq u j)) = some (lq u (j + 1))) ∧ Bd double 1 (lq u (j + 1)) := by
  obtain ⟨a, ha⟩ := F_mul (e := -1) hu h (by decide) (by decide) (by decide)
  obtain ⟨b, hb⟩ := F_add (e := 1) (bd_of (ko_step j hj).2.2) ha (by decide) (by decide) (by decide) (by decide)
  exact ⟨⟨a, b⟩, hb⟩
theorem lq_bd {u : Nat} (hu : Bd double (-2) u) : ∀ j, j ≤ 13 → Bd double 1 (lq u j)
  | 0, _ => (bd_of (by decide +kernel) : Bd double 1 0)
  | j + 1, h => (lq_step hu j (by omega) (lq_bd hu j (by omega))).2

def Wln2 : Nat := 4604418534313441775
def ls (x : Nat) : Nat := F .quo (F .sub x W1) (F .add x W1)
def lu (x : Nat) : Nat := F .mul (ls x) (ls x)
def lp (x : Nat) : Nat := F .mul (ls x) (lq (lu x) 13)
def lt2 (x : Nat) : Nat := F .mul W2 (lp x)
def le2 (e : Int) : Nat := F .mul (cnt e) Wln2
/-- The logarithm of a positive 32-bit number's word. -/
def logF (y : Nat) : Nat := F .add (lt2 (Y2 y)) (le2 (Ex y))

structure LogF (x : Nat) (e : Int) : Prop where
  a : floatBits .sub .f64 x W1 = some (F .sub x W1)
  b : floatBits .add .f64 x W1 = some (F .add x W1)
  s : floatBits .quo .f64 (F .sub x W1) (F .add x W1) = some (ls x)
  u : floatBits .mul .f64 (ls x) (ls x) = some (lu x)
  q : ∀ j, j < 13 → floatBits .mul .f64 (lu x) (lq (lu x) j) = some (F .mul (lu x) (lq (lu x) j)) ∧ floatBits .add .f64 (Co j) (F .mul (lu x) (lq (lu x) j)) = some (lq (lu x) (j + 1))
  p : floatBits .mul .f64 (ls x) (lq (lu x) 13) = some (lp x)
  t : floatBits .mul .f64 W2 (lp x) = some (lt2 x)
  ee : floatBits .mul .f64 (cnt e) Wln2 = some (le2 e)
  r : floatBits .add .f64 (lt2 x) (le2 e) = some (F .add (lt2 x) (le2 e))
  bd : Bd double 9 (F .add (lt2 x) (le2 e))

theorem logF_ok {x : Nat} {e : Int} (h1 : 4604930618986332160 ≤ x) (h2 : x < 4609434218613702656) (he : -200 < e ∧ e < 200) : LogF x e := by
  obtain ⟨a, ab, b, bb⟩ := near_one h1 h2
  obtain ⟨s, sb⟩ := F_quo (e := -1) ab bb (by decide) (by decide) (by decide)
  obtain ⟨u, ub⟩ := F_mul (e := -2) sb sb (by decide) (by decide) (by decide)
  have qb := lq_bd ub
  obtain ⟨p, pb⟩ := F_mul (e := 0) sb (qb 13 (Nat.le_refl _)) (by decide) (by decide) (by decide)
  have w2 : Bd double 1 W2 := bd_of (by decide +kernel)
  have wl : Bd double 0 Wln2 := bd_of (by decide +kernel)
  obtain ⟨t, tb⟩ := F_mul (e := 1) w2 pb (by decide) (by decide) (by decide)
  have ce : Bd double 8 (cnt e) := by
    by_cases h0 : 0 ≤ e
    · obtain ⟨k, rfl⟩ : ∃ k : Nat, e = k := ⟨e.toNat, by omega⟩
      exact bd_of (cnt_bd k (by omega)).1
    · obtain ⟨k, rfl⟩ : ∃ k : Nat, e = -(k : Int) := ⟨(-e).toNat, by omega⟩
      exact bd_of (cnt_bd k (by omega)).2
  obtain ⟨ee, eb⟩ := F_mul (e := 8) ce wl (by decide) (by decide) (by decide)
  obtain ⟨r, rb⟩ := F_add (e := 9) tb eb (by decide) (by decide) (by decide) (by decide)
  exact ⟨a, b, s, u, fun j hj => (lq_step ub j hj (qb j (by omega))).1, p, t, ee, r, rb⟩
end Fb
