/-
  Plain mathematics: the sine of a number of turns, word by word. Conditions: none.
-/
import Derived.Test.YtbphigmpcjodkaaSine
import Derived.Test.YtbphigmpcjodkaaFlo
set_option linter.unusedVariables false
set_option linter.unusedSimpArgs false
namespace Fb
open Ieee Go

def sinE : Nat → Int
  | 0 => 0
  | 1 => 7
  | 2 => 15
  | 3 => 23
  | 4 => 32
  | 5 => 41
  | 6 => 51
  | 7 => 62
  | _ => 75

theorem sin_step {u : Nat} (hu : Bd double 14 u) (j : Nat) (hj : j < 8) (h : Bd double (sinE j) (ser u j)) :
    (floatBits .mul .f64 u (ser u j) = some (F .mul u (ser u j)) ∧ floatBits .quo .f64 (F .mul u (ser u j)) (Wd (8 - j)) = some (F .quo (F .mul u (ser u j)) (Wd (8 - j))) ∧
      floatBits .sub .f64 W1 (F .quo (F .mul u (ser u j)) (Wd (8 - j))) = some (ser u (j + 1))) ∧ Bd double (sinE (j + 1)) (ser u (j + 1)) := by
  have h1 : Bd double 0 W1 := bd_of (by decide +kernel)
  match j, hj with
  | 0, _ =>
    obtain ⟨a, ha⟩ := F_mul (e := 14) hu h (by decide) (by decide) (by decide)
    obtain ⟨b, hb⟩ := F_quo (b := 8) (e := 6) ha (y := Wd 8) (lo_of (by decide +kernel)) (by decide) (by decide) (by decide)
    obtain ⟨c, hc⟩ := F_sub (e := 7) h1 hb (by decide) (by decide) (by decide) (by decide)
    exact ⟨⟨a, b, c⟩, hc⟩
  | 1, _ =>
    obtain ⟨a, ha⟩ := F_mul (e := 21) hu h (by decide) (by decide) (by decide)
    obtain ⟨b, hb⟩ := F_quo (b := 7) (e := 14) ha (y := Wd 7) (lo_of (by decide +kernel)) (by decide) (by decide) (by decide)
    obtain ⟨c, hc⟩ := F_sub (e := 15) h1 hb (by decide) (by decide) (by decide) (by decide)
    exact ⟨⟨a, b, c⟩, hc⟩
  | 2, _ =>
    obtain ⟨a, ha⟩ := F_mul (e := 29) hu h (by decide) (by decide) (by decide)
    obtain ⟨b, hb⟩ := F_quo (b := 7) (e := 22) ha (y := Wd 6) (lo_of (by decide +kernel)) (by decide) (by decide) (by decide)
    obtain ⟨c, hc⟩ := F_sub (e := 23) h1 hb (by decide) (by decide) (by decide) (by decide)
    exact ⟨⟨a, b, c⟩, hc⟩
  | 3, _ =>
    obtain ⟨a, ha⟩ := F_mul (e := 37) hu h (by decide) (by decide) (by decide)
    obtain ⟨b, hb⟩ := F_quo (b := 6) (e := 31) ha (y := Wd 5) (lo_of (by decide +kernel)) (by decide) (by decide) (by decide)
    obtain ⟨c, hc⟩ := F_sub (e := 32) h1 hb (by decide) (by decide) (by decide) (by decide)
    exact ⟨⟨a, b, c⟩, hc⟩
  | 4, _ =>
    obtain ⟨a, ha⟩ := F_mul (e := 46) hu h (by decide) (by decide) (by decide)
    obtain ⟨b, hb⟩ := F_quo (b := 6) (e := 40) ha (y := Wd 4) (lo_of (by decide +kernel)) (by decide) (by decide) (by decide)
    obtain ⟨c, hc⟩ := F_sub (e := 41) h1 hb (by decide) (by decide) (by decide) (by decide)
    exact ⟨⟨a, b, c⟩, hc⟩
  | 5, _ =>
    obtain ⟨a, ha⟩ := F_mul (e := 55) hu h (by decide) (by decide) (by decide)
    obtain ⟨b, hb⟩ := F_quo (b := 5) (e := 50) ha (y := Wd 3) (lo_of (by decide +kernel)) (by decide) (by decide) (by decide)
    obtain ⟨c, hc⟩ := F_sub (e := 51) h1 hb (by decide) (by decide) (by decide) (by decide)
    exact ⟨⟨a, b, c⟩, hc⟩
  | 6, _ =>
    obtain ⟨a, ha⟩ := F_mul (e := 65) hu h (by decide) (by decide) (by decide)
    obtain ⟨b, hb⟩ := F_quo (b := 4) (e := 61) ha (y := Wd 2) (lo_of (by decide +kernel)) (by decide) (by decide) (by decide)
    obtain ⟨c, hc⟩ := F_sub (e := 62) h1 hb (by decide) (by decide) (by decide) (by decide)
    exact ⟨⟨a, b, c⟩, hc⟩
  | 7, _ =>
    obtain ⟨a, ha⟩ := F_mul (e := 76) hu h (by decide) (by decide) (by decide)
    obtain ⟨b, hb⟩ := F_quo (b := 2) (e := 74) ha (y := Wd 1) (lo_of (by decide +kernel)) (by decide) (by decide) (by decide)
    obtain ⟨c, hc⟩ := F_sub (e := 75) h1 hb (by decide) (by decide) (by decide) (by decide)
    exact ⟨⟨a, b, c⟩, hc⟩
  | k + 8, h => omega

theorem sin_bd {u : Nat} (hu : Bd double 14 u) : ∀ j, j ≤ 8 → Bd double (sinE j) (ser u j)
  | 0, _ => (bd_of (by decide +kernel) : Bd double 0 W1)
  | j + 1, h => (sin_step hu j (by omega) (sin_bd hu j (by omega))).2

open Go.Proofs.Ytbphigmpcjodkaa.Flo in
/-- What a walk wants of an operation. -/
theorem opf {op : BinOp} {x y z : Nat} (h : floatBits op .f64 x y = some z) : (∀ w, fres op .f64 w x y = z) ∧ fcnt op .f64 x y = 0 := by
  unfold fres fcnt
  rw [h]
  exact ⟨fun _ => rfl, rfl⟩

def lt0 (f : Nat) : Bool := double.order f 0 == some .lt
def geH (f : Nat) : Bool := double.order f Whalf == some .gt || double.order f Whalf == some .eq
def gtQ (f : Nat) : Bool := double.order f Wquarter == some .gt

/-- The whole part's word. -/
def whole (s : Bool) (t : Nat) : Nat := double.nearest (decide ((if s then -(t : Int) else (t : Int)) < 0)) t 0

/-- A number less than its whole part, whatever a zero's sign is. -/
theorem frac_bd' {x : Nat} {s : Bool} {m : Nat} {d : Nat} (hx : double.read x = .number s m (-(d : Int))) (hd : 0 < d) (hm : m / 2 ^ d < 2 ^ 53) :
    ∃ z, double.sub x (whole s (m / 2 ^ d)) = some z ∧ Bd double 1 z := by
  by_cases h0 : m / 2 ^ d = 0
  · have hb : Bd double 0 x := by
      refine ⟨s, m, _, hx, ?_⟩
      unfold Le
      rw [show (-(d : Int) - 0).toNat = 0 by omega, show (0 - -(d : Int)).toNat = d by omega, Nat.pow_zero, Nat.mul_one]
      have := Nat.div_eq_zero_iff.1 h0
      have hp := pow_pos2 d
      omega
    have hz : Bd double 0 (whole s (m / 2 ^ d)) := by
      rw [h0]
      have : whole s 0 = 0 := by unfold whole; cases s <;> decide +kernel
      rw [this]; exact bd_of (by decide +kernel)
    exact sub_bd good_double hb hz (by decide) (by decide) (in_double (by decide) (by decide))
  · obtain ⟨z, hz, hb⟩ := frac_bd hx hd hm
    have : whole s (m / 2 ^ d) = double.nearest s (m / 2 ^ d) 0 := by
      unfold whole
      generalize m / 2 ^ d = t at *
      congr 1
      cases s <;> simp <;> omega
    rw [this]
    exact ⟨z, hz, hb.mono (by decide)⟩

/-- The fraction, the turned half, the quarter. -/
def fr1 (f0 : Nat) : Nat := if lt0 f0 then F .add f0 W1 else f0
def fr2 (f1 : Nat) : Nat := if geH f1 then F .sub f1 Whalf else f1
def fr3 (f2 : Nat) : Nat := if gtQ f2 then F .sub Whalf f2 else f2
def sz (f : Nat) : Nat := F .mul (fr3 (fr2 f)) Wturn
def su (f : Nat) : Nat := F .mul (sz f) (sz f)
def sp (f : Nat) : Nat := F .mul (sz f) (ser (su f) 8)
/-- The sine of a fraction of a turn. -/
def sinF (f : Nat) : Nat := if geH f then Op.negFloat .f64 (sp f) else sp f

theorem consts : Bd double 0 W1 ∧ Bd double 0 Whalf ∧ Bd double 0 Wquarter ∧ Bd double 3 Wturn := ⟨bd_of (by decide +kernel), bd_of (by decide +kernel), bd_of (by decide +kernel), bd_of (by decide +kernel)⟩

theorem fr1_bd {f : Nat} (h : Bd double 1 f) : (floatBits .add .f64 f W1 = some (F .add f W1)) ∧ Bd double 2 (fr1 f) := by
  obtain ⟨a, b⟩ := F_add (e := 2) h consts.1 (by decide) (by decide) (by decide) (by decide)
  refine ⟨a, ?_⟩
  unfold fr1; split
  · exact b
  · exact h.mono (by decide)
theorem fr2_bd {f : Nat} (h : Bd double 2 f) : (floatBits .sub .f64 f Whalf = some (F .sub f Whalf)) ∧ Bd double 3 (fr2 f) := by
  obtain ⟨a, b⟩ := F_sub (e := 3) h consts.2.1 (by decide) (by decide) (by decide) (by decide)
  refine ⟨a, ?_⟩
  unfold fr2; split
  · exact b
  · exact h.mono (by decide)
theorem fr3_bd {f : Nat} (h : Bd double 3 f) : (floatBits .sub .f64 Whalf f = some (F .sub Whalf f)) ∧ Bd double 4 (fr3 f) := by
  obtain ⟨a, b⟩ := F_sub (e := 4) consts.2.1 h (by decide) (by decide) (by decide) (by decide)
  refine ⟨a, ?_⟩
  unfold fr3; split
  · exact b
  · exact h.mono (by decide)
theorem sz_bd {f : Nat} (h : Bd double 2 f) : floatBits .mul .f64 (fr3 (fr2 f)) Wturn = some (sz f) ∧ Bd double 7 (sz f) :=
  F_mul (fr3_bd (fr2_bd h).2).2 consts.2.2.2 (by decide) (by decide) (by decide)
theorem su_bd {f : Nat} (h : Bd double 2 f) : floatBits .mul .f64 (sz f) (sz f) = some (su f) ∧ Bd double 14 (su f) :=
  F_mul (sz_bd h).2 (sz_bd h).2 (by decide) (by decide) (by decide)
theorem sp_bd {f : Nat} (h : Bd double 2 f) : floatBits .mul .f64 (sz f) (ser (su f) 8) = some (sp f) ∧ Bd double 82 (sp f) :=
  F_mul (sz_bd h).2 (sin_bd (su_bd h).2 8 (Nat.le_refl _)) (by decide) (by decide) (by decide)

/-- The sign turned. -/
theorem neg_word {x : Nat} (hx : x < 2 ^ 64) : Op.negFloat .f64 x = if x < 2 ^ 63 then x + 2 ^ 63 else x - 2 ^ 63 := by
  have e : Op.negFloat .f64 x = x ^^^ 2 ^ 63 := rfl
  rw [e]
  apply Nat.eq_of_testBit_eq
  intro j
  rw [Nat.testBit_xor, Nat.testBit_two_pow]
  by_cases h : x < 2 ^ 63
  · rw [if_pos h]
    by_cases hj : 63 = j
    · subst hj
      have h1 : x.testBit 63 = false := Nat.testBit_lt_two_pow h
      rw [Nat.add_comm, Nat.testBit_two_pow_add_eq, h1]; rfl
    · by_cases hl : j < 63
      · rw [Nat.add_comm, Nat.testBit_two_pow_add_gt hl]; simp [hj]
      · have h1 : x.testBit j = false := Nat.testBit_lt_two_pow (Nat.lt_of_lt_of_le h (Nat.pow_le_pow_right (by decide) (by omega)))
        have h2 : (x + 2 ^ 63).testBit j = false := Nat.testBit_lt_two_pow (Nat.lt_of_lt_of_le (show x + 2 ^ 63 < 2 ^ 64 by omega) (Nat.pow_le_pow_right (by decide) (by omega)))
        rw [h1, h2]; simp [hj]
  · rw [if_neg h]
    obtain ⟨y, rfl⟩ : ∃ y, x = 2 ^ 63 + y := ⟨x - 2 ^ 63, by omega⟩
    have hy : y < 2 ^ 63 := by omega
    rw [show 2 ^ 63 + y - 2 ^ 63 = y by omega]
    by_cases hj : 63 = j
    · subst hj
      have h1 : y.testBit 63 = false := Nat.testBit_lt_two_pow hy
      rw [Nat.testBit_two_pow_add_eq, h1]; rfl
    · by_cases hl : j < 63
      · rw [Nat.testBit_two_pow_add_gt hl]; simp [hj]
      · have h1 : y.testBit j = false := Nat.testBit_lt_two_pow (Nat.lt_of_lt_of_le hy (Nat.pow_le_pow_right (by decide) (by omega)))
        have h2 : (2 ^ 63 + y).testBit j = false := Nat.testBit_lt_two_pow (Nat.lt_of_lt_of_le (show 2 ^ 63 + y < 2 ^ 64 by omega) (Nat.pow_le_pow_right (by decide) (by omega)))
        rw [h1, h2]; simp [hj]

theorem neg_bd {x : Nat} {e : Int} (hx : x < 2 ^ 64) (h : Bd double e x) : Bd double e (Op.negFloat .f64 x) := by
  obtain ⟨s, m, p, h1, h2⟩ := h
  refine ⟨!s, m, p, ?_, h2⟩
  rw [neg_word hx]
  have hsw : double.signWeight = 2 ^ 63 := by decide +kernel
  unfold Format.read at h1 ⊢
  dsimp only at h1 ⊢
  rw [hsw] at h1 ⊢
  have key : ∀ y : Nat, y < 2 ^ 63 → ((y + 2 ^ 63) % 2 ^ 63 = y % 2 ^ 63) ∧ ((y + 2 ^ 63) / 2 ^ 63 % 2 = 1) ∧ (y / 2 ^ 63 % 2 = 0) := by intro y hy; omega
  by_cases h : x < 2 ^ 63
  · rw [if_pos h]
    obtain ⟨k1, k2, k3⟩ := key x h
    rw [k1, k2]; rw [k3] at h1
    split at h1
    · rename_i g1; rw [if_pos g1]; cases h1; rfl
    · rename_i g1; rw [if_neg g1]
      split at h1
      · rename_i g2; rw [if_pos g2]; cases h1; rfl
      · split at h1 <;> cases h1
  · rw [if_neg h]
    obtain ⟨y, rfl⟩ : ∃ y, x = y + 2 ^ 63 := ⟨x - 2 ^ 63, by omega⟩
    obtain ⟨k1, k2, k3⟩ := key y (by omega)
    rw [show y + 2 ^ 63 - 2 ^ 63 = y by omega, k3]; rw [k1, k2] at h1
    split at h1
    · rename_i g1; rw [if_pos g1]; cases h1; rfl
    · rename_i g1; rw [if_neg g1]
      split at h1
      · rename_i g2; rw [if_pos g2]; cases h1; rfl
      · split at h1 <;> cases h1

theorem sinF_bd {f : Nat} (h : Bd double 2 f) : Bd double 82 (sinF f) := by
  unfold sinF
  split
  · exact neg_bd (Format.mul_lt double (sp_bd h).1) (sp_bd h).2
  · exact (sp_bd h).2
end Fb
