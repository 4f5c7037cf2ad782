/-
  Plain mathematics: sums, products and quotients of normal 64-bit words by whole numbers alone: quick in the kernel. Conditions: none.
-/
import Derived.Test.YtbphigmpcjodkaaLog
import Derived.Laws.FloatArith
set_option linter.unusedVariables false
set_option linter.unusedSimpArgs false
namespace Ff
open Ieee Go Fb

/-- Goes on with the number, reckoned out. -/
def fc {α : Type} (n : Nat) (f : Nat → α) : α := Nat.rec (f 0) (fun m _ => f (Nat.succ m)) n
theorem fc_eq {α : Type} (n : Nat) (f : Nat → α) : fc n f = f n := by cases n <;> rfl

theorem cut_even (neg : Bool) (n d : Nat) (hd : 1 ≤ d) (hl : d ≤ n.log2 + 2) :
    Toward.even.cut neg n d = (n + (2 ^ (d - 1) - 1 + n / 2 ^ d % 2)) / 2 ^ d := by
  obtain ⟨e, rfl⟩ : ∃ e, d = e + 1 := ⟨d - 1, by omega⟩
  unfold Toward.cut
  dsimp only
  rw [Nat.one_shiftLeft, Nat.min_eq_left hl, Nat.add_sub_cancel]
  have hg : 2 ^ (e + 1) = 2 * 2 ^ e := by rw [Nat.pow_succ, Nat.mul_comm]
  rw [hg]
  have hp : 0 < 2 ^ e := pow_pos2 e
  generalize 2 ^ e = g at hp
  have hdm := Nat.div_add_mod n (2 * g)
  have hml := Nat.mod_lt n (show 2 * g > 0 by omega)
  generalize n / (2 * g) = q at *
  generalize n % (2 * g) = r at *
  have hq2 : q % 2 < 2 := Nat.mod_lt _ (by decide)
  have e1 : n + (g - 1 + q % 2) = 2 * g * q + (r + (g - 1) + q % 2) := by omega
  rw [e1, Nat.mul_add_div (by omega)]
  congr 1
  by_cases h1 : g < r
  · have hb : (decide (2 * g < 2 * r) || 2 * g == 2 * r && q % 2 == 1) = true := by
      rw [decide_eq_true (by omega)]; rfl
    rw [hb]
    show 1 = _
    exact (Nat.div_eq_of_lt_le (by omega) (by omega)).symm
  · by_cases h2 : g = r
    · subst h2
      have hb : (decide (2 * g < 2 * g) || 2 * g == 2 * g && q % 2 == 1) = (q % 2 == 1) := by simp
      rw [hb]
      by_cases h3 : q % 2 = 1
      · rw [h3]
        show 1 = _
        exact (Nat.div_eq_of_lt_le (by omega) (by omega)).symm
      · have h4 : q % 2 = 0 := by omega
        rw [h4]
        show 0 = _
        exact (Nat.div_eq_of_lt (by omega)).symm
    · have hb : (decide (2 * g < 2 * r) || 2 * g == 2 * r && q % 2 == 1) = false := by
        rw [decide_eq_false (by omega), beq_eq_false_iff_ne.2 (by omega)]; rfl
      rw [hb]
      show 0 = _
      exact (Nat.div_eq_of_lt (by omega)).symm

theorem cut_zero (neg : Bool) (n : Nat) : Toward.even.cut neg n 0 = n := by
  have := cut_exact neg n 0
  by_cases h : 0 < n
  · have := this h; rwa [Nat.pow_zero, Nat.mul_one] at this
  · obtain rfl : n = 0 := by omega
    cases neg <;> decide

/-- The word of a sign (0 or 1) and what is kept. -/
def sw (s r : Nat) : Nat := s * 9223372036854775808 + r
theorem word_sw (s : Bool) (r : Nat) : double.word s r = sw s.toNat r := by
  obtain ⟨hL, hF, hB, hI, hS⟩ := dblc
  unfold Format.word sw
  rw [hS]
  cases s <;> simp

theorem near_big (neg : Bool) {m l d L : Nat} {place : Int} (h0 : m ≠ 0) (hl : m.log2 = l) (hd : d + 52 = l) (hd1 : 1 ≤ d) (hp : place + d = (L : Int) - 1074) (hL : L ≤ 2045) :
    double.nearest neg m place = sw neg.toNat (L * 4503599627370496 + (m + (2 ^ (d - 1) - 1 + m / 2 ^ d % 2)) / 2 ^ d) := by
  obtain ⟨cL, cF, cB, cI, cS⟩ := dblc
  unfold Format.nearest
  rw [if_neg h0]
  dsimp only
  rw [hl, cL, cF, cB, cI]
  have hlast : max (place + ((l : Nat) : Int) - (52 : Nat)) (-1074) = place + d := by omega
  rw [hlast, show (place - (place + d)).toNat = 0 by omega, Nat.shiftLeft_zero, show (place + d - place).toNat = d by omega, cut_even neg m d hd1 (by omega),
    show (place + d - -1074).toNat = L by omega, word_sw]
  have hlt : m < 2 ^ (l + 1) := by rw [← hl]; exact Nat.lt_log2_self
  have hk : (m + (2 ^ (d - 1) - 1 + m / 2 ^ d % 2)) / 2 ^ d ≤ 9007199254740992 := by
    have hpd := pow_pos2 d
    have e1 : 2 ^ (l + 1) = 9007199254740992 * 2 ^ d := by rw [show l + 1 = 53 + d by omega, Nat.pow_add]
    have e2 : 2 ^ d = 2 * 2 ^ (d - 1) := by rw [← Nat.pow_succ']; congr 1; omega
    have h3 := Nat.mod_lt (m / 2 ^ d) (show 2 > 0 by decide)
    have h4 : m + (2 ^ (d - 1) - 1 + m / 2 ^ d % 2) < 9007199254740993 * 2 ^ d := by
      have : 9007199254740993 * 2 ^ d = 9007199254740992 * 2 ^ d + 2 ^ d := by omega
      have := pow_pos2 (d - 1)
      omega
    have := (Nat.div_lt_iff_lt_mul hpd).2 h4
    omega
  rw [Nat.min_eq_left (by omega)]

theorem near_small (neg : Bool) {m l L : Nat} {place : Int} (h0 : m ≠ 0) (hl : m.log2 = l) (hd : l ≤ 52) (hp : place + l = (L : Int) - 1022) (hL : L ≤ 2045) :
    double.nearest neg m place = sw neg.toNat (L * 4503599627370496 + m * 2 ^ (52 - l)) := by
  obtain ⟨cL, cF, cB, cI, cS⟩ := dblc
  unfold Format.nearest
  rw [if_neg h0]
  dsimp only
  rw [hl, cL, cF, cB, cI]
  have hlast : max (place + ((l : Nat) : Int) - (52 : Nat)) (-1074) = (L : Int) - 1074 := by omega
  rw [hlast, show (place - ((L : Int) - 1074)).toNat = 52 - l by omega, show ((L : Int) - 1074 - place).toNat = 0 by omega, cut_zero, Nat.shiftLeft_eq, show ((L : Int) - 1074 - -1074).toNat = L by omega, word_sw]
  have hlt : m < 2 ^ (l + 1) := by rw [← hl]; exact Nat.lt_log2_self
  have hk : m * 2 ^ (52 - l) < 9007199254740992 := by
    have := (Nat.mul_lt_mul_right (pow_pos2 (52 - l))).2 hlt
    rw [← Nat.pow_add, show l + 1 + (52 - l) = 53 by omega] at this
    exact this
  rw [Nat.min_eq_left (by omega)]

theorem blt_of {a b : Nat} (h : a < b) : Nat.blt a b = true := Nat.ble_eq_true_of_le h
theorem of_blt {a b : Nat} (h : Nat.blt a b = true) : a < b := Nat.le_of_ble_eq_true h
theorem beq_of {a b : Nat} (h : a = b) : Nat.beq a b = true := by subst h; exact Nat.beq_refl a

/-! ### The parts of a word -/
def ex (x : Nat) : Nat := Nat.land (Nat.shiftRight x 52) 2047
def mn (x : Nat) : Nat := Nat.add 4503599627370496 (Nat.land x 4503599627370495)
def sg (x : Nat) : Nat := Nat.shiftRight x 63
theorem ex_eq (x : Nat) : ex x = x / 4503599627370496 % 2048 := by
  show (x >>> 52) &&& 2047 = _
  rw [Nat.and_two_pow_sub_one_eq_mod _ 11, Nat.shiftRight_eq_div_pow]
theorem mn_eq (x : Nat) : mn x = 4503599627370496 + x % 4503599627370496 := by
  show 4503599627370496 + (x &&& 4503599627370495) = _
  rw [Nat.and_two_pow_sub_one_eq_mod _ 52]
theorem sg_eq (x : Nat) : sg x = x / 9223372036854775808 := by
  show x >>> 63 = _
  rw [Nat.shiftRight_eq_div_pow]
theorem read_nrm {x : Nat} (hx : x < 18446744073709551616) (h1 : 1 ≤ ex x) (h2 : ex x ≤ 2046) :
    double.read x = .number (sg x == 1) (mn x) ((ex x : Int) - 1075) := by
  obtain ⟨cL, cF, cB, cI, cS⟩ := dblc
  rw [ex_eq] at h1 h2
  rw [ex_eq, mn_eq, sg_eq]
  unfold Format.read
  dsimp only
  rw [cS, cB, cI, cL]
  rw [if_neg (by omega), if_pos (by omega)]
  have e1 : x / 9223372036854775808 % 2 = x / 9223372036854775808 := by omega
  have e2 : x % 9223372036854775808 % 4503599627370496 = x % 4503599627370496 := by omega
  have e3 : x % 9223372036854775808 / 4503599627370496 = x / 4503599627370496 % 2048 := by omega
  rw [e1, e2, e3]
  congr 1
  omega
theorem mn_bd (x : Nat) : 4503599627370496 ≤ mn x ∧ mn x < 9007199254740992 := by rw [mn_eq]; omega

/-- Rounded: m of l + 1 digits, d = l - 52 of them dropped. -/
def rd (m d : Nat) : Nat := Nat.shiftRight (Nat.add m (Nat.add (Nat.sub (Nat.pow 2 (Nat.sub d 1)) 1) (Nat.land (Nat.shiftRight m d) 1))) d
theorem rd_eq (m d : Nat) : rd m d = (m + (2 ^ (d - 1) - 1 + m / 2 ^ d % 2)) / 2 ^ d := by
  show (m + (2 ^ (d - 1) - 1 + ((m >>> d) &&& 1))) >>> d = _
  rw [Nat.shiftRight_eq_div_pow, Nat.shiftRight_eq_div_pow, Nat.and_one_is_mod]
/-- A word in range. -/
def okw (x : Nat) : Bool := Nat.ble 1 (ex x) && (Nat.ble (ex x) 2046 && Nat.blt x 18446744073709551616)
theorem okw_of {x : Nat} (h : okw x = true) : x < 18446744073709551616 ∧ 1 ≤ ex x ∧ ex x ≤ 2046 := by
  unfold okw at h
  simp only [Bool.and_eq_true, Nat.ble_eq, Nat.blt_eq] at h
  exact ⟨h.2.2, h.1, h.2.1⟩
theorem sg_lt {x : Nat} (h : x < 18446744073709551616) : sg x < 2 := by rw [sg_eq]; omega
theorem sg_bool {x : Nat} (h : x < 18446744073709551616) : (sg x == 1).toNat = sg x := by
  have := sg_lt h
  have h2 : sg x = 0 ∨ sg x = 1 := by omega
  rcases h2 with h2 | h2 <;> rw [h2] <;> rfl

/-- The end of a product or a sum: sign s, magnitude m of l + 1 digits, place + d = L - 1074. -/
def fin (s m L d : Nat) : Nat := Nat.add (Nat.mul s 9223372036854775808) (Nat.add (Nat.mul L 4503599627370496) (rd m d))

theorem fin_eq (s m L d : Nat) : fin s m L d = sw s (L * 4503599627370496 + (m + (2 ^ (d - 1) - 1 + m / 2 ^ d % 2)) / 2 ^ d) := by
  rw [← rd_eq]; rfl
/-- The same where no digit is dropped. -/
def fin0 (s m L d : Nat) : Nat := Nat.add (Nat.mul s 9223372036854775808) (Nat.add (Nat.mul L 4503599627370496) (Nat.shiftLeft m d))
theorem fin0_eq (s m L d : Nat) : fin0 s m L d = sw s (L * 4503599627370496 + m * 2 ^ d) := by
  rw [← Nat.shiftLeft_eq]; rfl

/-! ### Products -/
def mul1 (s m E : Nat) : Nat := fc m fun m => fc (Nat.shiftRight m 105) fun b => fin s m (Nat.sub (Nat.add E b) 1024) (Nat.add 52 b)
def mulW (x y : Nat) : Option Nat :=
  cond (okw x && (okw y && (Nat.ble 1024 (Nat.add (ex x) (ex y)) && Nat.ble (Nat.add (ex x) (ex y)) 3068)))
    (some (mul1 (Nat.xor (sg x) (sg y)) (Nat.mul (mn x) (mn y)) (Nat.add (ex x) (ex y)))) (floatBits .mul .f64 x y)
theorem xor_bit {a b : Nat} (ha : a < 2) (hb : b < 2) : Nat.xor a b = ((a == 1) ^^ (b == 1)).toNat := by
  have h1 : a = 0 ∨ a = 1 := by omega
  have h2 : b = 0 ∨ b = 1 := by omega
  rcases h1 with rfl | rfl <;> rcases h2 with rfl | rfl <;> rfl
theorem mulW_eq (x y : Nat) : mulW x y = floatBits .mul .f64 x y := by
  unfold mulW
  cases hc : (okw x && (okw y && (Nat.ble 1024 (Nat.add (ex x) (ex y)) && Nat.ble (Nat.add (ex x) (ex y)) 3068))) with
  | false => rfl
  | true =>
    simp only [Bool.and_eq_true, Nat.ble_eq] at hc
    obtain ⟨h1, h2, h3, h4⟩ := hc
    obtain ⟨x1, x2, x3⟩ := okw_of h1
    obtain ⟨y1, y2, y3⟩ := okw_of h2
    have h3' : 1024 ≤ ex x + ex y := h3
    have h4' : ex x + ex y ≤ 3068 := h4
    show some _ = double.mul x y
    unfold Format.mul
    rw [read_nrm x1 x2 x3, read_nrm y1 y2 y3]
    show some _ = some (double.nearest ((sg x == 1) ^^ (sg y == 1)) (mn x * mn y) ((ex x : Int) - 1075 + ((ex y : Int) - 1075)))
    apply congrArg some
    have hmx := mn_bd x; have hmy := mn_bd y
    have hlo : 2 ^ 104 ≤ mn x * mn y := Nat.le_trans (by decide) (Nat.mul_le_mul hmx.1 hmy.1)
    have hhi : mn x * mn y < 2 ^ 106 := Nat.lt_of_lt_of_le (Nat.mul_lt_mul'' hmx.2 hmy.2) (by decide)
    generalize hm : mn x * mn y = m at *
    unfold mul1
    rw [fc_eq, fc_eq, show Nat.mul (mn x) (mn y) = m from hm]
    show fin (Nat.xor (sg x) (sg y)) m (ex x + ex y + (m >>> 105) - 1024) (52 + (m >>> 105)) = _
    rw [Nat.shiftRight_eq_div_pow]
    have hb : m / 2 ^ 105 = 0 ∧ m < 2 ^ 105 ∨ m / 2 ^ 105 = 1 ∧ 2 ^ 105 ≤ m := by omega
    rcases hb with ⟨hb, hlt⟩ | ⟨hb, hge⟩
    · rw [hb, near_big _ (l := 104) (d := 52) (L := ex x + ex y - 1024) (by omega) ((Nat.log2_eq_iff (by omega)).2 ⟨hlo, hlt⟩) rfl (by decide) (by omega) (by omega)]
      rw [fin_eq, xor_bit (sg_lt x1) (sg_lt y1), Nat.add_zero, Nat.add_zero]
    · rw [hb, near_big _ (l := 105) (d := 53) (L := ex x + ex y + 1 - 1024) (by omega) ((Nat.log2_eq_iff (by omega)).2 ⟨hge, hhi⟩) rfl (by decide) (by omega) (by omega)]
      rw [fin_eq, xor_bit (sg_lt x1) (sg_lt y1)]

/-! ### Sums -/
theorem sgn_t (m u : Nat) : signed true m u = -((m * 2 ^ u : Nat) : Int) := by unfold signed; rw [Nat.shiftLeft_eq, if_pos rfl]
theorem sgn_f (m u : Nat) : signed false m u = ((m * 2 ^ u : Nat) : Int) := by unfold signed; rw [Nat.shiftLeft_eq, if_neg (by decide)]

/-- The same sign; the greater exponent a, D = a - b. -/
def addS (s m b D : Nat) : Nat := fc m fun m => fc (Nat.shiftRight m (Nat.add 53 D)) fun t => fin s m (Nat.sub (Nat.add b (Nat.add D t)) 1) (Nat.add D t)
theorem addS_eq (s : Bool) {m b D : Nat} (h1 : 1 ≤ b) (h2 : b + D ≤ 2044) (hlo : 2 ^ (52 + D) ≤ m) (hhi : m < 2 ^ (54 + D)) (hD : D = 0 → 2 ^ 53 ≤ m) :
    double.nearest s m ((b : Int) - 1075) = addS s.toNat m b D := by
  have h0 : m ≠ 0 := by have := pow_pos2 (52 + D); omega
  have hp := pow_pos2 (53 + D)
  have e53 : 2 ^ (54 + D) = 2 * 2 ^ (53 + D) := by rw [show 54 + D = 53 + D + 1 by omega, Nat.pow_succ, Nat.mul_comm]
  unfold addS
  rw [fc_eq, fc_eq]
  show _ = fin s.toNat m (b + (D + m >>> (53 + D)) - 1) (D + m >>> (53 + D))
  rw [Nat.shiftRight_eq_div_pow]
  by_cases hb : 2 ^ (53 + D) ≤ m
  · have hq : m / 2 ^ (53 + D) = 1 := Nat.div_eq_of_lt_le (by omega) (by omega)
    rw [hq, near_big _ (l := 53 + D) (d := D + 1) (L := b + (D + 1) - 1) h0 ((Nat.log2_eq_iff h0).2 ⟨hb, by rw [show 53 + D + 1 = 54 + D by omega]; exact hhi⟩) (by omega) (by omega) (by omega) (by omega)]
    rw [fin_eq, show b + (D + 1) - 1 = b + (D + 1) - 1 from rfl, show D + 1 = D + 1 from rfl]
  · have hq : m / 2 ^ (53 + D) = 0 := Nat.div_eq_of_lt (by omega)
    have hD1 : 1 ≤ D := by
      rcases Nat.eq_zero_or_pos D with h | h
      · subst h; have := hD rfl; exact absurd this hb
      · exact h
    rw [hq, near_big _ (l := 52 + D) (d := D) (L := b + D - 1) h0 ((Nat.log2_eq_iff h0).2 ⟨hlo, by rw [show 52 + D + 1 = 53 + D by omega]; omega⟩) (by omega) (by omega) (by omega) (by omega)]
    rw [fin_eq, Nat.add_zero]

/-- Other signs: the difference, above 0, in the place of b; l is its last digit's place. -/
def addL (s m b l : Nat) : Nat := cond (Nat.ble l 52) (fin0 s m (Nat.sub (Nat.add b l) 53) (Nat.sub 52 l)) (fin s m (Nat.sub (Nat.add b l) 53) (Nat.sub l 52))
theorem addL_eq (s : Bool) {m b l : Nat} (h0 : m ≠ 0) (hl : m.log2 = l) (h1 : 53 ≤ b) (h2 : b + l ≤ 2098) : double.nearest s m ((b : Int) - 1075) = addL s.toNat m b l := by
  unfold addL
  cases hc : Nat.ble l 52 with
  | true =>
    have h3 : l ≤ 52 := Nat.le_of_ble_eq_true hc
    rw [near_small _ (l := l) (L := b + l - 53) h0 hl h3 (by omega) (by omega), cond_true]
    exact (fin0_eq s.toNat m (b + l - 53) (52 - l)).symm
  | false =>
    have h3 : ¬ l ≤ 52 := fun h => by rw [Nat.ble_eq_true_of_le h] at hc; cases hc
    rw [near_big _ (l := l) (d := l - 52) (L := b + l - 53) h0 hl (by omega) (by omega) (by omega) (by omega), cond_false]
    exact (fin_eq s.toNat m (b + l - 53) (l - 52)).symm
def addD (s m b : Nat) : Nat := fc m fun m => fc (Nat.log2 m) fun l => addL s m b l
theorem addD_eq (s : Bool) {m b : Nat} (h0 : m ≠ 0) (h1 : 53 ≤ b) (h2 : b + m.log2 ≤ 2098) : double.nearest s m ((b : Int) - 1075) = addD s.toNat m b := by
  obtain ⟨l, hl⟩ : ∃ l, m.log2 = l := ⟨_, rfl⟩
  have e : addD s.toNat m b = addL s.toNat m b (Nat.log2 m) := by unfold addD; rw [fc_eq, fc_eq]
  rw [e]
  rw [hl] at h2 ⊢
  exact addL_eq s h0 hl h1 h2

/-- The sum of two in order: ex y at most ex x. -/
def addO (x y : Nat) : Option Nat :=
  fc (ex x) fun a => fc (ex y) fun b => cond (Nat.ble 53 b && (Nat.ble a 1900 && Nat.ble (Nat.sub a b) 140))
    (cond (Nat.beq (sg x) (sg y))
      (some (addS (sg x) (Nat.add (Nat.shiftLeft (mn x) (Nat.sub a b)) (mn y)) b (Nat.sub a b)))
      (fc (Nat.shiftLeft (mn x) (Nat.sub a b)) fun p => fc (mn y) fun q => cond (Nat.blt q p) (some (addD (sg x) (Nat.sub p q) b))
        (cond (Nat.blt p q) (some (addD (sg y) (Nat.sub q p) b)) (floatBits .add .f64 x y))))
    (floatBits .add .f64 x y)
theorem sgb_cases {x : Nat} (h : x < 18446744073709551616) : sg x = 0 ∧ (sg x == 1) = false ∨ sg x = 1 ∧ (sg x == 1) = true := by
  have := sg_lt h
  have h2 : sg x = 0 ∨ sg x = 1 := by omega
  rcases h2 with h2 | h2
  · exact .inl ⟨h2, by rw [h2]; rfl⟩
  · exact .inr ⟨h2, by rw [h2]; rfl⟩
theorem sum_num {s t : Bool} {m n : Nat} {i j : Int} {tot : Int} (ht : signed s m (i - min i j).toNat + signed t n (j - min i j).toNat = tot) (h0 : tot ≠ 0) :
    ((Datum.number s m i).sum (Datum.number t n j)).map double.write = some (double.nearest (decide (tot < 0)) tot.natAbs (min i j)) := by
  show some (double.write (.number (if signed s m (i - min i j).toNat + signed t n (j - min i j).toNat = 0 then s && t else _) _ _)) = _
  rw [ht, if_neg h0]
  rfl
theorem addO_eq {x y : Nat} (hx : okw x = true) (hy : okw y = true) (hxy : ex y ≤ ex x) : addO x y = floatBits .add .f64 x y := by
  obtain ⟨x1, x2, x3⟩ := okw_of hx
  obtain ⟨y1, y2, y3⟩ := okw_of hy
  unfold addO
  rw [fc_eq, fc_eq]
  cases hg : (Nat.ble 53 (ex y) && (Nat.ble (ex x) 1900 && Nat.ble (Nat.sub (ex x) (ex y)) 140)) with
  | false => rfl
  | true =>
    simp only [Bool.and_eq_true, Nat.ble_eq] at hg
    obtain ⟨g1, g2, g3⟩ := hg
    have g3' : ex x - ex y ≤ 140 := g3
    obtain ⟨D, hD⟩ : ∃ D, ex x - ex y = D := ⟨_, rfl⟩
    have hDs : Nat.sub (ex x) (ex y) = D := hD
    rw [hDs]
    have hmx := mn_bd x; have hmy := mn_bd y
    have hpD := pow_pos2 D
    have hsl : Nat.shiftLeft (mn x) D = mn x * 2 ^ D := by show mn x <<< D = _; rw [Nat.shiftLeft_eq]
    rw [hsl]
    have hmin : min ((ex x : Int) - 1075) ((ex y : Int) - 1075) = (ex y : Int) - 1075 := by omega
    have hu1 : (((ex x : Int) - 1075) - min ((ex x : Int) - 1075) ((ex y : Int) - 1075)).toNat = D := by omega
    have hu2 : (((ex y : Int) - 1075) - min ((ex x : Int) - 1075) ((ex y : Int) - 1075)).toNat = 0 := by omega
    have hP1 : 2 ^ (52 + D) ≤ mn x * 2 ^ D := by rw [Nat.pow_add]; exact Nat.mul_le_mul_right _ hmx.1
    have hP2 : mn x * 2 ^ D < 2 ^ (53 + D) := by rw [Nat.pow_add]; exact (Nat.mul_lt_mul_right hpD).2 hmx.2
    have hP3 : (9007199254740992 : Nat) ≤ 2 ^ (53 + D) := by rw [Nat.pow_add]; exact Nat.le_mul_of_pos_right _ hpD
    have hP4 : 2 ^ (54 + D) = 2 ^ (53 + D) + 2 ^ (53 + D) := by rw [show 54 + D = 53 + D + 1 by omega, Nat.pow_succ]; omega
    have hP5 : D = 0 → 2 ^ 53 ≤ mn x * 2 ^ D + mn y := by intro h; subst h; rw [Nat.pow_zero, Nat.mul_one]; omega
    generalize hp : mn x * 2 ^ D = p at *
    generalize hq : mn y = q at *
    have hsum : ∀ s t, signed s (mn x) D + signed t q 0 = (if s then -(p : Int) else p) + (if t then -(q : Int) else q) := by
      intro s t
      cases s <;> cases t <;> simp only [sgn_t, sgn_f, hp, Nat.pow_zero, Nat.mul_one, if_true, if_false, Bool.false_eq_true]
    show _ = double.add x y
    unfold Format.add
    rw [read_nrm x1 x2 x3, read_nrm y1 y2 y3, hq]
    rw [fc_eq, fc_eq]
    have key : ∀ s t : Bool, sg x = s.toNat → (sg x == 1) = s → sg y = t.toNat → (sg y == 1) = t → (cond (Nat.beq (sg x) (sg y)) (some (addS (sg x) (Nat.add p q) (ex y) D))
        (cond (Nat.blt q p) (some (addD (sg x) (Nat.sub p q) (ex y))) (cond (Nat.blt p q) (some (addD (sg y) (Nat.sub q p) (ex y))) (floatBits .add .f64 x y)))) =
        ((Datum.number s (mn x) ((ex x : Int) - 1075)).sum (Datum.number t q ((ex y : Int) - 1075))).map double.write := by
      intro s t hs hs1 ht ht1
      by_cases hst : s = t
      · subst hst
        have hbe : Nat.beq (sg x) (sg y) = true := beq_of (by rw [hs, ht])
        rw [hbe]
        show some (addS (sg x) (p + q) (ex y) D) = _
        rw [sum_num (tot := if s then -((p + q : Nat) : Int) else ((p + q : Nat) : Int)) (by rw [hu1, hu2, hsum]; cases s <;> simp <;> omega) (by cases s <;> simp <;> omega), hmin]
        have e1 : decide ((if s then -((p + q : Nat) : Int) else ((p + q : Nat) : Int)) < 0) = s := by cases s <;> simp <;> omega
        have e2 : (if s then -((p + q : Nat) : Int) else ((p + q : Nat) : Int)).natAbs = p + q := by cases s <;> simp <;> omega
        rw [e1, e2, addS_eq s (D := D) (by omega) (by omega) (by omega) (by omega) hP5, hs]
      · have hbe : Nat.beq (sg x) (sg y) = false := by
          cases hb : Nat.beq (sg x) (sg y) with
          | false => rfl
          | true =>
            have := Nat.eq_of_beq_eq_true hb
            rw [hs, ht] at this
            cases s <;> cases t <;> simp_all
        rw [hbe]
        have hlg : ∀ r : Nat, r ≠ 0 → r < 2 ^ (53 + D) → ex y + r.log2 ≤ 2098 := by
          intro r h0 hr
          have h3 : r.log2 < 53 + D := (Nat.log2_lt h0).2 hr
          omega
        show (cond (Nat.blt q p) (some (addD (sg x) (p - q) (ex y))) (cond (Nat.blt p q) (some (addD (sg y) (q - p) (ex y))) (floatBits .add .f64 x y))) = _
        by_cases h1 : q < p
        · have : Nat.blt q p = true := blt_of h1
          rw [this]
          rw [sum_num (tot := if s then -((p - q : Nat) : Int) else ((p - q : Nat) : Int)) (by rw [hu1, hu2, hsum]; cases s <;> cases t <;> simp_all <;> omega) (by cases s <;> simp <;> omega), hmin]
          have e1 : decide ((if s then -((p - q : Nat) : Int) else ((p - q : Nat) : Int)) < 0) = s := by cases s <;> simp <;> omega
          have e2 : (if s then -((p - q : Nat) : Int) else ((p - q : Nat) : Int)).natAbs = p - q := by cases s <;> simp <;> omega
          rw [e1, e2, addD_eq s (by omega) g1 (hlg _ (by omega) (by omega)), hs]
          rfl
        · have hb1 : Nat.blt q p = false := by
            cases hb : Nat.blt q p with
            | false => rfl
            | true => exact absurd (of_blt hb) h1
          rw [hb1]
          by_cases h2 : p < q
          · have : Nat.blt p q = true := blt_of h2
            rw [this]
            rw [sum_num (tot := if t then -((q - p : Nat) : Int) else ((q - p : Nat) : Int)) (by rw [hu1, hu2, hsum]; cases s <;> cases t <;> simp_all <;> omega) (by cases t <;> simp <;> omega), hmin]
            have e1 : decide ((if t then -((q - p : Nat) : Int) else ((q - p : Nat) : Int)) < 0) = t := by cases t <;> simp <;> omega
            have e2 : (if t then -((q - p : Nat) : Int) else ((q - p : Nat) : Int)).natAbs = q - p := by cases t <;> simp <;> omega
            rw [e1, e2, addD_eq t (by omega) g1 (hlg _ (by omega) (by omega)), ht]
            rfl
          · have hb2 : Nat.blt p q = false := by
              cases hb : Nat.blt p q with
              | false => rfl
              | true => exact absurd (of_blt hb) h2
            rw [hb2]
            show double.add x y = _
            unfold Format.add
            rw [read_nrm x1 x2 x3, read_nrm y1 y2 y3, hq, hs1, ht1]
    rcases sgb_cases x1 with ⟨a1, a2⟩ | ⟨a1, a2⟩ <;> rcases sgb_cases y1 with ⟨b1, b2⟩ | ⟨b1, b2⟩
    · rw [key false false a1 a2 b1 b2, a2, b2]; rfl
    · rw [key false true a1 a2 b1 b2, a2, b2]; rfl
    · rw [key true false a1 a2 b1 b2, a2, b2]; rfl
    · rw [key true true a1 a2 b1 b2, a2, b2]; rfl

theorem sum_comm (a b : Datum) : a.sum b = b.sum a := by
  cases a with
  | nan s t => cases b <;> rfl
  | infinity s => cases b with
    | nan _ _ => rfl
    | infinity t =>
      show (if s = t then some (Datum.infinity s) else none) = if t = s then some (Datum.infinity t) else none
      by_cases h : s = t
      · subst h; rfl
      · rw [if_neg h, if_neg (Ne.symm h)]
    | number _ _ _ => rfl
  | number s m i => cases b with
    | nan _ _ => rfl
    | infinity _ => rfl
    | number t n j =>
      unfold Datum.sum
      dsimp only
      rw [Int.min_comm j i, Int.add_comm (signed t n _), Bool.and_comm t s]
theorem add_comm' (x y : Nat) : floatBits .add .f64 x y = floatBits .add .f64 y x := by
  show double.add x y = double.add y x
  unfold Format.add
  rw [sum_comm]
def addW (x y : Nat) : Option Nat := cond (okw x && okw y) (cond (Nat.ble (ex y) (ex x)) (addO x y) (addO y x)) (floatBits .add .f64 x y)
theorem addW_eq (x y : Nat) : addW x y = floatBits .add .f64 x y := by
  unfold addW
  cases hc : (okw x && okw y) with
  | false => rfl
  | true =>
    simp only [Bool.and_eq_true] at hc
    cases hb : Nat.ble (ex y) (ex x) with
    | true => exact addO_eq hc.1 hc.2 (Nat.le_of_ble_eq_true hb)
    | false =>
      have : ¬ ex y ≤ ex x := fun h => by rw [Nat.ble_eq_true_of_le h] at hb; cases hb
      show addO y x = _
      rw [addO_eq hc.2 hc.1 (by omega), add_comm']

end Ff
