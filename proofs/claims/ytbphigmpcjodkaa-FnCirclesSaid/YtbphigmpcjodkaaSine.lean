/-
  Plain mathematics: what the program's and the reference's sine compute, word by word, and that nothing grows too great. Conditions: none.
-/
import Derived.Laws.FloatArith
import Derived.Test.YtbphigmpcjodkaaFb
set_option linter.unusedVariables false
set_option linter.unusedSimpArgs false
namespace Fb
open Ieee Go

/-- An operation on 64-bit words; 0 where it has no answer. -/
def F (op : BinOp) (x y : Nat) : Nat := (floatBits op .f64 x y).getD 0

theorem F_add {x y : Nat} {a b e : Int} (hx : Bd double a x) (hy : Bd double b y) (ha : a + 1 ≤ e) (hb : b + 1 ≤ e) (h1 : -1022 < e) (h2 : e ≤ 1023) : floatBits .add .f64 x y = some (F .add x y) ∧ Bd double e (F .add x y) := by
  obtain ⟨z, hz, hb⟩ := add_bd good_double hx hy ha hb (in_double h1 h2)
  have : floatBits .add .f64 x y = some z := hz
  unfold F; rw [this]; exact ⟨rfl, hb⟩
theorem F_sub {x y : Nat} {a b e : Int} (hx : Bd double a x) (hy : Bd double b y) (ha : a + 1 ≤ e) (hb : b + 1 ≤ e) (h1 : -1022 < e) (h2 : e ≤ 1023) : floatBits .sub .f64 x y = some (F .sub x y) ∧ Bd double e (F .sub x y) := by
  obtain ⟨z, hz, hb⟩ := sub_bd good_double hx hy ha hb (in_double h1 h2)
  have : floatBits .sub .f64 x y = some z := hz
  unfold F; rw [this]; exact ⟨rfl, hb⟩
theorem F_mul {x y : Nat} {a b e : Int} (hx : Bd double a x) (hy : Bd double b y) (he : a + b ≤ e) (h1 : -1022 < e) (h2 : e ≤ 1023) : floatBits .mul .f64 x y = some (F .mul x y) ∧ Bd double e (F .mul x y) := by
  obtain ⟨z, hz, hb⟩ := mul_bd good_double hx hy he (in_double h1 h2)
  have : floatBits .mul .f64 x y = some z := hz
  unfold F; rw [this]; exact ⟨rfl, hb⟩
theorem F_quo {x y : Nat} {a b e : Int} (hx : Bd double a x) (hy : ∃ t n j, double.read y = .number t n j ∧ Ge n j b) (he : a - b ≤ e) (h1 : -1022 < e) (h2 : e ≤ 1023) : floatBits .quo .f64 x y = some (F .quo x y) ∧ Bd double e (F .quo x y) := by
  obtain ⟨z, hz, hb⟩ := div_bd good_double hx hy he (in_double h1 h2)
  have : floatBits .quo .f64 x y = some z := hz
  unfold F; rw [this]; exact ⟨rfl, hb⟩

instance (m : Nat) (p e : Int) : Decidable (Le m p e) := by unfold Le; infer_instance
instance (m : Nat) (p e : Int) : Decidable (Ge m p e) := by unfold Ge; infer_instance
def bdB (e : Int) (x : Nat) : Bool := match double.read x with | .number _ m p => decide (Le m p e) | _ => false
def loB (e : Int) (x : Nat) : Bool := match double.read x with | .number _ m p => decide (Ge m p e) | _ => false
theorem bd_of {e : Int} {x : Nat} (h : bdB e x = true) : Bd double e x := by
  unfold bdB at h
  split at h
  · rename_i s m p hr; exact ⟨s, m, p, hr, of_decide_eq_true h⟩
  · cases h
theorem lo_of {e : Int} {x : Nat} (h : loB e x = true) : ∃ t n j, double.read x = .number t n j ∧ Ge n j e := by
  unfold loB at h
  split at h
  · rename_i s m p hr; exact ⟨s, m, p, hr, of_decide_eq_true h⟩
  · cases h

theorem Bd.mono {f : Format} {x : Nat} {a e : Int} (h : Bd f a x) (he : a ≤ e) : Bd f e x := by
  obtain ⟨s, m, p, h1, h2⟩ := h; exact ⟨s, m, p, h1, h2.mono he⟩

/-- The words of 1, 2, 0.5, 0.25, the full turn. -/
def W1 : Nat := 0x3ff0000000000000
def Whalf : Nat := 0x3fe0000000000000
def Wquarter : Nat := 0x3fd0000000000000
def Wturn : Nat := 0x401921fb54442d18
/-- The words of 0 to 8. -/
def Wk : Nat → Nat
  | 0 => 0
  | 1 => 0x3ff0000000000000
  | 2 => 0x4000000000000000
  | 3 => 0x4008000000000000
  | 4 => 0x4010000000000000
  | 5 => 0x4014000000000000
  | 6 => 0x4018000000000000
  | 7 => 0x401c000000000000
  | _ => 0x4020000000000000
/-- The word of 2k(2k+1). -/
def Wd (k : Nat) : Nat := double.nearest false (2 * k * (2 * k + 1)) 0
/-- The series after the k-s from 8 down to 9 - j. -/
def ser (u : Nat) : Nat → Nat
  | 0 => W1
  | j + 1 => F .sub W1 (F .quo (F .mul u (ser u j)) (Wd (8 - j)))

def serE : Nat → Int
  | 0 => 0 | 1 => 5 | 2 => 11 | 3 => 17 | 4 => 24 | 5 => 31 | 6 => 39 | 7 => 48 | _ => 59

theorem ser_step {u : Nat} (hu : Bd double 12 u) (j : Nat) (hj : j < 8) (h : Bd double (serE j) (ser u j)) :
    (floatBits .mul .f64 u (ser u j) = some (F .mul u (ser u j)) ∧ floatBits .quo .f64 (F .mul u (ser u j)) (Wd (8 - j)) = some (F .quo (F .mul u (ser u j)) (Wd (8 - j))) ∧
      floatBits .sub .f64 W1 (F .quo (F .mul u (ser u j)) (Wd (8 - j))) = some (ser u (j + 1))) ∧ Bd double (serE (j + 1)) (ser u (j + 1)) := by
  have h1 : Bd double 0 W1 := bd_of (by decide +kernel)
  match j, hj with
  | 0, _ =>
    obtain ⟨a, ha⟩ := F_mul (e := 12) hu h (by decide) (by decide) (by decide)
    obtain ⟨b, hb⟩ := F_quo (b := 8) (e := 4) ha (y := Wd 8) (lo_of (by decide +kernel)) (by decide) (by decide) (by decide)
    obtain ⟨c, hc⟩ := F_sub (e := 5) h1 hb (by decide) (by decide) (by decide) (by decide)
    exact ⟨⟨a, b, c⟩, hc⟩
  | 1, _ =>
    obtain ⟨a, ha⟩ := F_mul (e := 17) hu h (by decide) (by decide) (by decide)
    obtain ⟨b, hb⟩ := F_quo (b := 7) (e := 10) ha (y := Wd 7) (lo_of (by decide +kernel)) (by decide) (by decide) (by decide)
    obtain ⟨c, hc⟩ := F_sub (e := 11) h1 hb (by decide) (by decide) (by decide) (by decide)
    exact ⟨⟨a, b, c⟩, hc⟩
  | 2, _ =>
    obtain ⟨a, ha⟩ := F_mul (e := 23) hu h (by decide) (by decide) (by decide)
    obtain ⟨b, hb⟩ := F_quo (b := 7) (e := 16) ha (y := Wd 6) (lo_of (by decide +kernel)) (by decide) (by decide) (by decide)
    obtain ⟨c, hc⟩ := F_sub (e := 17) h1 hb (by decide) (by decide) (by decide) (by decide)
    exact ⟨⟨a, b, c⟩, hc⟩
  | 3, _ =>
    obtain ⟨a, ha⟩ := F_mul (e := 29) hu h (by decide) (by decide) (by decide)
    obtain ⟨b, hb⟩ := F_quo (b := 6) (e := 23) ha (y := Wd 5) (lo_of (by decide +kernel)) (by decide) (by decide) (by decide)
    obtain ⟨c, hc⟩ := F_sub (e := 24) h1 hb (by decide) (by decide) (by decide) (by decide)
    exact ⟨⟨a, b, c⟩, hc⟩
  | 4, _ =>
    obtain ⟨a, ha⟩ := F_mul (e := 36) hu h (by decide) (by decide) (by decide)
    obtain ⟨b, hb⟩ := F_quo (b := 6) (e := 30) ha (y := Wd 4) (lo_of (by decide +kernel)) (by decide) (by decide) (by decide)
    obtain ⟨c, hc⟩ := F_sub (e := 31) h1 hb (by decide) (by decide) (by decide) (by decide)
    exact ⟨⟨a, b, c⟩, hc⟩
  | 5, _ =>
    obtain ⟨a, ha⟩ := F_mul (e := 43) hu h (by decide) (by decide) (by decide)
    obtain ⟨b, hb⟩ := F_quo (b := 5) (e := 38) ha (y := Wd 3) (lo_of (by decide +kernel)) (by decide) (by decide) (by decide)
    obtain ⟨c, hc⟩ := F_sub (e := 39) h1 hb (by decide) (by decide) (by decide) (by decide)
    exact ⟨⟨a, b, c⟩, hc⟩
  | 6, _ =>
    obtain ⟨a, ha⟩ := F_mul (e := 51) hu h (by decide) (by decide) (by decide)
    obtain ⟨b, hb⟩ := F_quo (b := 4) (e := 47) ha (y := Wd 2) (lo_of (by decide +kernel)) (by decide) (by decide) (by decide)
    obtain ⟨c, hc⟩ := F_sub (e := 48) h1 hb (by decide) (by decide) (by decide) (by decide)
    exact ⟨⟨a, b, c⟩, hc⟩
  | 7, _ =>
    obtain ⟨a, ha⟩ := F_mul (e := 60) hu h (by decide) (by decide) (by decide)
    obtain ⟨b, hb⟩ := F_quo (b := 2) (e := 58) ha (y := Wd 1) (lo_of (by decide +kernel)) (by decide) (by decide) (by decide)
    obtain ⟨c, hc⟩ := F_sub (e := 59) h1 hb (by decide) (by decide) (by decide) (by decide)
    exact ⟨⟨a, b, c⟩, hc⟩
  | k + 8, h => omega

theorem ser_bd {u : Nat} (hu : Bd double 12 u) : ∀ j, j ≤ 8 → Bd double (serE j) (ser u j)
  | 0, _ => (bd_of (by decide +kernel) : Bd double 0 W1)
  | j + 1, h => (ser_step hu j (by omega) (ser_bd hu j (by omega))).2
end Fb
