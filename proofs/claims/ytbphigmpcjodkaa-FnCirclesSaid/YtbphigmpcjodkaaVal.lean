/-
  What words of a format stand for: reading what was written, the order of two words, conversions that lose nothing. Conditions: none.
-/
import Derived.Test.YtbphigmpcjodkaaFlo
set_option linter.unusedVariables false
set_option linter.unusedSimpArgs false
namespace Go.Proofs.Ytbphigmpcjodkaa
open Go Go.RowKit Flo

namespace Val
open Ieee

theorem read_word (f : Format) (neg : Bool) (R : Nat) (h : R < f.signWeight) :
    f.read (f.word neg R) = if R < f.binade then .number neg R f.leastPlace
      else if R < f.infRung then .number neg (f.binade + R % f.binade) (f.leastPlace + (R / f.binade - 1 : Nat))
      else if R = f.infRung then .infinity neg else .nan neg (R - f.infRung) := by
  have h1 : f.word neg R % f.signWeight = R := by
    unfold Format.word; cases neg
    · exact Nat.mod_eq_of_lt h
    · simp only [if_true]; rw [Nat.add_mod_left, Nat.mod_eq_of_lt h]
  have hp : 0 < f.signWeight := Nat.two_pow_pos _
  have h2 : (f.word neg R / f.signWeight % 2 == 1) = neg := by
    unfold Format.word; cases neg
    · simp only [Bool.false_eq_true, if_false]; rw [Nat.div_eq_of_lt h]; rfl
    · simp only [if_true]; rw [Nat.add_div_left _ hp, Nat.div_eq_of_lt h]; rfl
  unfold Format.read
  dsimp only
  rw [h1, h2]

/-- A rung by its binade and what is left of it. -/
theorem read_rung (f : Format) (neg : Bool) (L K : Nat) (hK : K < 2 * f.binade) (hL : L = 0 ∨ f.binade ≤ K) (h : L * f.binade + K < f.infRung) :
    f.read (f.word neg (L * f.binade + K)) = .number neg K (f.leastPlace + L) := by
  have hb : 0 < f.binade := Nat.two_pow_pos _
  have hi := f.infRung_add_binade
  rw [read_word f neg _ (by omega)]
  by_cases hs : L * f.binade + K < f.binade
  · have : L = 0 := by
      rcases hL with h | h
      · exact h
      · omega
    subst this
    rw [if_pos hs]; simp
  · rw [if_neg hs, if_pos h]
    have hKb : f.binade ≤ K := by
      rcases hL with h | h
      · subst h; omega
      · exact h
    obtain ⟨d, rfl⟩ := Nat.exists_eq_add_of_le hKb
    have e1 : (L * f.binade + (f.binade + d)) % f.binade = d := by
      rw [← Nat.add_assoc, show L * f.binade + f.binade = (L + 1) * f.binade by rw [Nat.succ_mul], Nat.mul_comm, Nat.mul_add_mod, Nat.mod_eq_of_lt (by omega)]
    have e2 : (L * f.binade + (f.binade + d)) / f.binade = L + 1 := by
      rw [← Nat.add_assoc, show L * f.binade + f.binade = (L + 1) * f.binade by rw [Nat.succ_mul], Nat.mul_comm, Nat.mul_add_div hb, Nat.div_eq_of_lt (by omega)]
    rw [e1, e2]
    rfl

theorem cut_zero (neg : Bool) (n : Nat) : Toward.even.cut neg n 0 = n := by
  unfold Toward.cut
  simp [Nat.mod_one]

/-- A number that the format has is written as it is. -/
theorem nearest_exact (f : Format) (neg : Bool) (mag : Nat) (place last : Int) (hm : mag ≠ 0) (hl : last = max (place + mag.log2 - f.fractionBits) f.leastPlace)
    (hle : last ≤ place) : f.nearest neg mag place = f.word neg (min ((last - f.leastPlace).toNat * f.binade + mag * 2 ^ (place - last).toNat) f.infRung) := by
  unfold Format.nearest
  rw [if_neg hm]
  dsimp only
  rw [← hl, show (last - place).toNat = 0 by omega, cut_zero, Nat.shiftLeft_eq]

theorem read_nearest (f : Format) (neg : Bool) (mag : Nat) (place last : Int) (hm : mag ≠ 0) (hl : last = max (place + mag.log2 - f.fractionBits) f.leastPlace)
    (hle : last ≤ place) (hi : (last - f.leastPlace).toNat * f.binade + mag * 2 ^ (place - last).toNat < f.infRung) :
    f.read (f.nearest neg mag place) = .number neg (mag * 2 ^ (place - last).toNat) last := by
  rw [nearest_exact f neg mag place last hm hl hle, Nat.min_eq_left (Nat.le_of_lt hi)]
  have hlog : mag < 2 ^ (mag.log2 + 1) := Nat.lt_log2_self
  have hlog2 : 2 ^ mag.log2 ≤ mag := Nat.log2_self_le hm
  have hK : mag * 2 ^ (place - last).toNat < 2 * f.binade := by
    have : mag * 2 ^ (place - last).toNat < 2 ^ (mag.log2 + 1) * 2 ^ (place - last).toNat := Nat.mul_lt_mul_of_pos_right hlog (Nat.two_pow_pos _)
    refine Nat.lt_of_lt_of_le this ?_
    rw [← Nat.pow_add, show 2 * f.binade = 2 ^ (f.fractionBits + 1) by unfold Format.binade; rw [Nat.pow_succ, Nat.mul_comm]]
    exact Nat.pow_le_pow_right (by decide) (by omega)
  have hL : (last - f.leastPlace).toNat = 0 ∨ f.binade ≤ mag * 2 ^ (place - last).toNat := by
    by_cases h : last = f.leastPlace
    · left; omega
    · right
      have : (place - last).toNat = f.fractionBits - mag.log2 := by omega
      rw [this]
      refine Nat.le_trans ?_ (Nat.mul_le_mul_right _ hlog2)
      rw [← Nat.pow_add]
      unfold Format.binade
      exact Nat.pow_le_pow_right (by decide) (by omega)
  rw [read_rung f neg _ _ hK hL hi]
  congr 1
  omega

/-- The number as a whole number of very small units. -/
def scal (s : Bool) (m : Nat) (p : Int) : Int := signed s m (p + 3000).toNat

theorem signed_mul (s : Bool) (m a b : Nat) : signed s m (a + b) = signed s m a * (2 ^ b : Nat) := by
  unfold signed
  cases s <;> simp [Nat.shiftLeft_eq, Nat.pow_add, ← Nat.mul_assoc, Int.neg_mul]

theorem scal_shift (s : Bool) (m k : Nat) (p : Int) (h : -3000 ≤ p - k) : scal s (m * 2 ^ k) (p - k) = scal s m p := by
  unfold scal
  have : (p + 3000).toNat = k + (p - k + 3000).toNat := by omega
  rw [this]
  unfold signed
  cases s <;> simp [Nat.shiftLeft_eq, Nat.pow_add, ← Nat.mul_assoc]

theorem compare_mul (a b : Int) (k : Nat) : compare (a * (2 ^ k : Nat)) (b * (2 ^ k : Nat)) = compare a b := by
  have hk : (0 : Int) < ((2 ^ k : Nat) : Int) := by exact_mod_cast Nat.two_pow_pos k
  rcases Int.lt_trichotomy a b with h | h | h
  · rw [Int.compare_eq_lt.2 h, Int.compare_eq_lt.2 (Int.mul_lt_mul_of_pos_right h hk)]
  · subst h; simp
  · rw [Int.compare_eq_gt.2 h, Int.compare_eq_gt.2 (Int.mul_lt_mul_of_pos_right h hk)]

theorem order_number (s t : Bool) (m n : Nat) (i j : Int) (hi : -3000 ≤ i) (hj : -3000 ≤ j) :
    (Datum.number s m i).order (Datum.number t n j) = some (compare (scal s m i) (scal t n j)) := by
  unfold Datum.order
  dsimp only
  congr 1
  have e1 : scal s m i = signed s m (i - min i j).toNat * (2 ^ (min i j + 3000).toNat : Nat) := by
    unfold scal; rw [← signed_mul]; congr 1; omega
  have e2 : scal t n j = signed t n (j - min i j).toNat * (2 ^ (min i j + 3000).toNat : Nat) := by
    unfold scal; rw [← signed_mul]; congr 1; omega
  rw [e1, e2, compare_mul]

/-- What a datum stands for. -/
inductive V where
  | nan
  | inf (s : Bool)
  | num (s : Bool) (v : Int)
  deriving DecidableEq

def val : Datum → V
  | .nan .. => .nan
  | .infinity s => .inf s
  | .number s m p => .num s (scal s m p)

def ordV : V → V → Option Ordering
  | .nan, _ | _, .nan => none
  | .inf s, .inf t => some (compare t.toNat s.toNat)
  | .inf s, .num .. => some (if s then .lt else .gt)
  | .num .., .inf t => some (if t then .gt else .lt)
  | .num _ v, .num _ u => some (compare v u)

/-- The place is not too small. -/
def okD : Datum → Prop
  | .number _ _ p => -3000 ≤ p
  | _ => True

theorem order_val {d e : Datum} (hd : okD d) (he : okD e) : d.order e = ordV (val d) (val e) := by
  cases d <;> cases e <;> first | rfl | exact order_number _ _ _ _ _ _ hd he

theorem ok_read (k : FloatKind) (x : Nat) : okD (k.decode x) := by
  unfold FloatKind.decode Format.read
  have : -3000 ≤ k.format.leastPlace := by cases k <;> decide +kernel
  dsimp only
  split
  · exact this
  · split
    · show (-3000 : Int) ≤ _; omega
    · split <;> trivial

theorem order_v (k : FloatKind) (x y : Nat) : k.format.order x y = ordV (val (k.decode x)) (val (k.decode y)) :=
  order_val (ok_read k x) (ok_read k y)

/-- The single word's parts. -/
theorem word32 (x : Nat) (h : x < 4294967296) : ∃ s R, x = single.word s R ∧ R < 2147483648 ∧ (s = decide (2147483648 ≤ x)) := by
  by_cases hs : 2147483648 ≤ x
  · exact ⟨true, x - 2147483648, by show x = 2147483648 + _; omega, by omega, by simp [hs]⟩
  · exact ⟨false, x, rfl, by omega, by simp [hs]⟩

/-- The double that stands for a single's number. -/
theorem conv_read (s : Bool) (m : Nat) (p : Int) (hm : m ≠ 0) (hm2 : m < 16777216) (hp : -149 ≤ p) (hp2 : p ≤ 104) :
    double.read (double.nearest s m p) = .number s (m * 2 ^ (52 - m.log2)) (p - (52 - m.log2 : Nat)) ∧ 1 ≤ m * 2 ^ (52 - m.log2) := by
  have hlog : m.log2 < 24 := (Nat.log2_lt hm).2 (by omega)
  have hfb : double.fractionBits = 52 := rfl
  have hlp : double.leastPlace = -1074 := by decide +kernel
  have hl : p - (52 - m.log2 : Nat) = max (p + m.log2 - double.fractionBits) double.leastPlace := by rw [hfb, hlp]; omega
  have hbi : double.binade = 4503599627370496 := by decide +kernel
  have hin : double.infRung = 2047 * 4503599627370496 := by decide +kernel
  have hpow : m * 2 ^ (52 - m.log2) < 2 * 4503599627370496 := by
    have h1 : m < 2 ^ (m.log2 + 1) := Nat.lt_log2_self
    have : m * 2 ^ (52 - m.log2) < 2 ^ (m.log2 + 1) * 2 ^ (52 - m.log2) := Nat.mul_lt_mul_of_pos_right h1 (Nat.two_pow_pos _)
    rw [← Nat.pow_add, show m.log2 + 1 + (52 - m.log2) = 53 by omega] at this
    exact this
  have hto : (p - (p - (52 - m.log2 : Nat))).toNat = 52 - m.log2 := by omega
  refine ⟨?_, Nat.mul_pos (by omega) (Nat.two_pow_pos _)⟩
  have := read_nearest double s m p _ hm hl (by omega) (by rw [hto, hlp, hbi, hin]; omega)
  rw [hto] at this
  exact this

theorem read_zero (f : Format) (s : Bool) : f.read (f.word s 0) = .number s 0 f.leastPlace := by
  rw [read_word f s 0 (Nat.two_pow_pos _)]; exact if_pos (Nat.two_pow_pos _)

theorem nearest_zero (f : Format) (s : Bool) (p : Int) : f.nearest s 0 p = f.word s 0 := by simp [Format.nearest]

/-- Reading a single's word: m and p are small. -/
theorem read32 (x : Nat) : (∃ g t, single.read x = .nan g t) ∨ (∃ g, single.read x = .infinity g) ∨ ∃ g m p, single.read x = .number g m p ∧ m < 16777216 ∧ -149 ≤ p ∧ p ≤ 104 := by
  have hbi : single.binade = 8388608 := by decide +kernel
  have hin : single.infRung = 2139095040 := by decide +kernel
  have hlp : single.leastPlace = -149 := by decide +kernel
  unfold Format.read
  dsimp only
  rw [hbi, hin, hlp]
  split
  · rename_i h; exact .inr (.inr ⟨_, _, _, rfl, by omega, by omega, by omega⟩)
  · split
    · rename_i h1 h2; exact .inr (.inr ⟨_, _, _, rfl, by omega, by omega, by omega⟩)
    · split
      · exact .inr (.inl ⟨_, rfl⟩)
      · exact .inl ⟨_, _, rfl⟩

theorem scal_zero (s : Bool) (p : Int) : scal s 0 p = 0 := by unfold scal signed; cases s <;> simp

/-- From single to double nothing is lost. -/
theorem conv_val (x : Nat) : val (FloatKind.f64.decode (fconv .f32 .f64 x)) = val (FloatKind.f32.decode x) := by
  unfold fconv
  rw [if_neg (by decide)]
  unfold FloatKind.decode FloatKind.format
  dsimp only
  rcases read32 x with ⟨g, t, h⟩ | ⟨g, h⟩ | ⟨g, m, p, h, h1, h2, h3⟩
  · rw [h]; show val (double.read (nanW .f64)) = .nan; decide +kernel
  · rw [h]; cases g <;> decide +kernel
  · rw [h]
    unfold FloatKind.encode FloatKind.format Format.write
    dsimp only
    by_cases hm : m = 0
    · subst hm
      rw [nearest_zero, read_zero]
      simp only [val, scal_zero]
    · rw [(conv_read g m p hm h1 h2 h3).1]
      simp only [val]
      rw [scal_shift _ _ _ _ (by omega)]

theorem cmp_conv (x y : Nat) : FloatKind.f64.format.order (fconv .f32 .f64 x) (fconv .f32 .f64 y) = FloatKind.f32.format.order x y := by
  rw [order_v, order_v, conv_val, conv_val]

/-- A conversion from single to double is never left open. -/
theorem conv_open (x : Nat) : tooGreat .f32 .f64 x = false := by
  unfold tooGreat
  rw [if_neg (by decide)]
  have hv := conv_val x
  unfold fconv at hv
  rw [if_neg (by decide)] at hv
  cases h : FloatKind.f32.decode x with
  | nan g t => rfl
  | infinity g => rfl
  | number g m p =>
    rw [h] at hv
    dsimp only at hv ⊢
    cases h2 : FloatKind.f64.decode (FloatKind.f64.encode (Datum.number g m p)) with
    | infinity s => rw [h2] at hv; simp [val] at hv
    | nan s t => rfl
    | number s m p => rfl

theorem isNaN_val (k : FloatKind) (x : Nat) : isNaN k x = decide (val (k.decode x) = .nan) := by
  unfold isNaN
  cases k.decode x <;> simp [val, Datum.isNaN]

theorem isNaN_conv (x : Nat) : isNaN .f64 (fconv .f32 .f64 x) = isNaN .f32 x := by
  rw [isNaN_val, isNaN_val, conv_val]

theorem order_self (k : FloatKind) (x : Nat) : k.format.order x x = if isNaN k x = true then none else some .eq := by
  rw [order_v, isNaN_val]
  cases val (k.decode x) <;> simp [ordV]
end Val
end Go.Proofs.Ytbphigmpcjodkaa
