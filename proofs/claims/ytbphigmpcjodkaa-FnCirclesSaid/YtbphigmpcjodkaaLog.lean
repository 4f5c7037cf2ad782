/-
  Plain mathematics: halves and doubles of 64-bit words, their order; the logarithm's loops and series. Conditions: none.
-/
import Derived.Test.YtbphigmpcjodkaaSine
set_option linter.unusedVariables false
set_option linter.unusedSimpArgs false
namespace Fb
open Ieee Go

theorem cut_exact (neg : Bool) (K d : Nat) (hK : 0 < K) : Toward.even.cut neg (K * 2 ^ d) d = K := by
  have h1 : Toward.even.cut neg (K * 2 ^ d) d ≤ K := cut_le (Nat.le_refl _)
  have h2 := cut_ge (neg := neg) hK (Nat.le_refl (K * 2 ^ d))
  omega

theorem dblc : double.leastPlace = -1074 ∧ double.fractionBits = 52 ∧ double.binade = 4503599627370496 ∧ double.infRung = 9218868437227405312 ∧ double.signWeight = 9223372036854775808 := ⟨by decide +kernel, rfl, rfl, by decide +kernel, by decide +kernel⟩

/-- A normal positive word. -/
theorem read_pos {r : Nat} (h1 : 4503599627370496 ≤ r) (h2 : r < 9218868437227405312) :
    double.read r = .number false (4503599627370496 + r % 4503599627370496) ((r / 4503599627370496 : Nat) - 1075) := by
  obtain ⟨hL, hF, hB, hI, hS⟩ := dblc
  have h := read_word good_double false (r := r) (by omega)
  have hw : double.word false r = r := rfl
  rw [hw, hB, if_neg (by omega), hL] at h
  rw [h]
  congr 1
  omega

theorem nearest_pos {m : Nat} {place : Int} {k : Nat} (hk : 0 < k) (K d : Nat) (hm : m = K * 2 ^ d) (hK1 : 4503599627370496 ≤ K) (hK2 : K < 9007199254740992) (hp : place + d = (k : Int) - 1075) (hlt : k < 2047) :
    double.nearest false m place = (k - 1) * 4503599627370496 + K := by
  obtain ⟨hL, hF, hB, hI, hS⟩ := dblc
  have h0 : m ≠ 0 := by rw [hm]; have := pow_pos2 d; exact Nat.mul_ne_zero (by omega) (by omega)
  have hlog : m.log2 = 52 + d := by
    apply (Nat.log2_eq_iff h0).2
    rw [hm]
    constructor
    · have := Nat.mul_le_mul_right (2 ^ d) (show 2 ^ 52 ≤ K by omega)
      rw [← Nat.pow_add] at this; exact this
    · have := (Nat.mul_lt_mul_right (pow_pos2 d)).2 (show K < 2 ^ 53 by omega)
      rw [← Nat.pow_add] at this
      rw [show 52 + d + 1 = 53 + d by omega]; exact this
  unfold Format.nearest
  rw [if_neg h0]
  dsimp only
  rw [hlog, hL, hF, hB, hI]
  have hlast : max (place + ((52 + d : Nat) : Int) - (52 : Nat)) (-1074) = place + d := by omega
  rw [hlast, show (place - (place + d)).toNat = 0 by omega, Nat.shiftLeft_zero, show (place + d - place).toNat = d by omega, hm, cut_exact _ _ _ (by omega),
    show (place + d - -1074).toNat = k - 1 by omega]
  have hw : ∀ r, double.word false r = r := fun _ => rfl
  rw [hw, Nat.min_eq_left (by omega)]

def W2 : Nat := 0x4000000000000000

theorem read_two : double.read W2 = .number false 4503599627370496 (-51) := by decide +kernel

theorem half {r : Nat} (h1 : 9007199254740992 ≤ r) (h2 : r < 9218868437227405312) : floatBits .quo .f64 r W2 = some (r - 4503599627370496) := by
  show double.div r W2 = _
  unfold Format.div Datum.quotient
  rw [read_pos (by omega) h2, read_two]
  simp only [show ¬ (4503599627370496 : Nat) = 0 by omega, if_false]
  generalize hm : 4503599627370496 + r % 4503599627370496 = m
  have hm1 : 4503599627370496 ≤ m := by omega
  have hm2 : m < 9007199254740992 := by omega
  have hlog : m.log2 = 52 := by
    apply (Nat.log2_eq_iff (by omega)).2; constructor <;> omega
  have hlog2 : (4503599627370496 : Nat).log2 = 52 := by decide +kernel
  rw [hlog, hlog2, show double.fractionBits + 2 + 52 - 52 = 54 from rfl, Nat.shiftLeft_eq]
  have e1 : m * 2 ^ 54 / 4503599627370496 = m * 4 := by omega
  have e2 : m * 2 ^ 54 % 4503599627370496 = 0 := by omega
  rw [e1, e2]
  have e3 : ((0 : Nat) != 0).toNat = 0 := rfl
  rw [e3, Nat.add_zero]
  have hx : ∀ x p, double.write (.number (false ^^ false) x p) = double.nearest false x p := fun _ _ => rfl
  rw [Option.map_some, hx, nearest_pos (k := r / 4503599627370496 - 1) (by omega) m 3 (by omega) hm1 hm2 (by omega) (by omega)]
  apply congrArg some
  omega

theorem twice {r : Nat} (h1 : 4503599627370496 ≤ r) (h2 : r < 9214364837600034816) : floatBits .mul .f64 r W2 = some (r + 4503599627370496) := by
  show double.mul r W2 = _
  unfold Format.mul
  rw [read_pos h1 (by omega), read_two]
  have hx : ∀ x p, double.write (.number (false ^^ false) x p) = double.nearest false x p := fun _ _ => rfl
  show Option.map double.write (some (.number (false ^^ false) ((4503599627370496 + r % 4503599627370496) * 4503599627370496) _)) = _
  rw [Option.map_some, hx, nearest_pos (k := r / 4503599627370496 + 1) (by omega) (4503599627370496 + r % 4503599627370496) 52 (by omega) (by omega) (by omega) (by omega) (by omega)]
  apply congrArg some
  omega

/-- The value of a normal positive word over the least place. -/
def V (r : Nat) : Nat := (4503599627370496 + r % 4503599627370496) * 2 ^ (r / 4503599627370496 - 1)

theorem V_lt {r r' : Nat} (h1 : 4503599627370496 ≤ r) (h : r < r') : V r < V r' := by
  unfold V
  by_cases hq : r / 4503599627370496 = r' / 4503599627370496
  · rw [hq]
    exact (Nat.mul_lt_mul_right (pow_pos2 _)).2 (by omega)
  · have h3 : (4503599627370496 + r % 4503599627370496) * 2 ^ (r / 4503599627370496 - 1) < 4503599627370496 * 2 ^ (r / 4503599627370496) := by
      have : 2 ^ (r / 4503599627370496) = 2 ^ (r / 4503599627370496 - 1) * 2 := by rw [← Nat.pow_succ]; congr 1; omega
      rw [this, Nat.mul_comm (2 ^ _) 2, ← Nat.mul_assoc]
      exact (Nat.mul_lt_mul_right (pow_pos2 _)).2 (by omega)
    have h4 : 4503599627370496 * 2 ^ (r / 4503599627370496) ≤ (4503599627370496 + r' % 4503599627370496) * 2 ^ (r' / 4503599627370496 - 1) :=
      Nat.mul_le_mul (by omega) (pow_le2 (by omega))
    omega

theorem order_pos {r r' : Nat} (h1 : 4503599627370496 ≤ r) (h2 : r < 9218868437227405312) (h3 : 4503599627370496 ≤ r') (h4 : r' < 9218868437227405312) :
    double.order r r' = some (compare r r') := by
  unfold Format.order Datum.order
  rw [read_pos h1 h2, read_pos h3 h4]
  dsimp only
  generalize hb : min (((r / 4503599627370496 : Nat) : Int) - 1075) (((r' / 4503599627370496 : Nat) : Int) - 1075) = b
  have e : ∀ x : Nat, 4503599627370496 ≤ x → b ≤ ((x / 4503599627370496 : Nat) : Int) - 1075 → -1074 ≤ b →
      V x = (4503599627370496 + x % 4503599627370496) * 2 ^ (((x / 4503599627370496 : Nat) : Int) - 1075 - b).toNat * 2 ^ (b + 1074).toNat := by
    intro x hx hbx hb2
    unfold V
    rw [Nat.mul_assoc, ← Nat.pow_add]; congr 2; omega
  have e1 := e r h1 (by omega) (by omega)
  have e2 := e r' h3 (by omega) (by omega)
  have hp := pow_pos2 (b + 1074).toNat
  have hs : ∀ m u : Nat, signed false m u = ((m * 2 ^ u : Nat) : Int) := by intro m u; unfold signed; rw [Nat.shiftLeft_eq]; rfl
  rw [hs, hs]
  generalize (4503599627370496 + r % 4503599627370496) * 2 ^ (((r / 4503599627370496 : Nat) : Int) - 1075 - b).toNat = X at *
  generalize (4503599627370496 + r' % 4503599627370496) * 2 ^ (((r' / 4503599627370496 : Nat) : Int) - 1075 - b).toNat = Y at *
  rcases Nat.lt_trichotomy r r' with h | h | h
  · have hv := V_lt h1 h
    rw [e1, e2] at hv
    have := Nat.lt_of_mul_lt_mul_right hv
    rw [Nat.compare_eq_lt.2 h, Int.compare_eq_lt.2 (by omega)]
  · subst h
    have : X = Y := Nat.eq_of_mul_eq_mul_right hp (e1.symm.trans e2)
    rw [this, Nat.compare_eq_eq.2 rfl, Int.compare_eq_eq.2 rfl]
  · have hv := V_lt h3 h
    rw [e1, e2] at hv
    have := Nat.lt_of_mul_lt_mul_right hv
    rw [Nat.compare_eq_gt.2 h, Int.compare_eq_gt.2 (by omega)]

/-- Count words: e and e + 1, e and e - 1. -/
def cnt (e : Int) : Nat := double.nearest (e < 0) e.natAbs 0
theorem cnt_up : ∀ j, j < 200 → floatBits .add .f64 (cnt (j : Nat)) W1 = some (cnt ((j : Nat) + 1)) := by decide +kernel
theorem cnt_down : ∀ j, j < 200 → floatBits .sub .f64 (cnt (-(j : Nat))) W1 = some (cnt (-((j : Nat) + 1))) := by decide +kernel
end Fb
