/-
  Plain mathematics: bounds of floating-point numbers by powers of two, through rounding and through the operations. Conditions: none.
-/
import Ieee.Arith
set_option linter.unusedVariables false
set_option linter.unusedSimpArgs false
namespace Fb
open Ieee

/-- mag * 2 ^ place is at most 2 ^ e. -/
def Le (m : Nat) (p e : Int) : Prop := m * 2 ^ (p - e).toNat ≤ 2 ^ (e - p).toNat
/-- mag * 2 ^ place is at least 2 ^ e. -/
def Ge (m : Nat) (p e : Int) : Prop := 2 ^ (e - p).toNat ≤ m * 2 ^ (p - e).toNat

theorem pow_pos2 (k : Nat) : 0 < 2 ^ k := Nat.pow_pos (by decide)
theorem pow_le2 {a b : Nat} (h : a ≤ b) : 2 ^ a ≤ 2 ^ b := Nat.pow_le_pow_right (by decide) h

/-- The same over any place below both. -/
theorem le_iff {m : Nat} {p e b : Int} (h1 : b ≤ p) (h2 : b ≤ e) : Le m p e ↔ m * 2 ^ (p - b).toNat ≤ 2 ^ (e - b).toNat := by
  unfold Le
  have hp := pow_pos2 (min p e - b).toNat
  have e1 : 2 ^ (p - b).toNat = 2 ^ (p - e).toNat * 2 ^ (min p e - b).toNat := by rw [← Nat.pow_add]; congr 1; omega
  have e2 : 2 ^ (e - b).toNat = 2 ^ (e - p).toNat * 2 ^ (min p e - b).toNat := by rw [← Nat.pow_add]; congr 1; omega
  rw [e1, e2, ← Nat.mul_assoc]
  exact ⟨fun h => Nat.mul_le_mul_right _ h, fun h => Nat.le_of_mul_le_mul_right h hp⟩

theorem ge_iff {m : Nat} {p e b : Int} (h1 : b ≤ p) (h2 : b ≤ e) : Ge m p e ↔ 2 ^ (e - b).toNat ≤ m * 2 ^ (p - b).toNat := by
  unfold Ge
  have hp := pow_pos2 (min p e - b).toNat
  have e1 : 2 ^ (p - b).toNat = 2 ^ (p - e).toNat * 2 ^ (min p e - b).toNat := by rw [← Nat.pow_add]; congr 1; omega
  have e2 : 2 ^ (e - b).toNat = 2 ^ (e - p).toNat * 2 ^ (min p e - b).toNat := by rw [← Nat.pow_add]; congr 1; omega
  rw [e1, e2, ← Nat.mul_assoc]
  exact ⟨fun h => Nat.mul_le_mul_right _ h, fun h => Nat.le_of_mul_le_mul_right h hp⟩

theorem Le.mono {m : Nat} {p e e' : Int} (h : Le m p e) (he : e ≤ e') : Le m p e' := by
  have h1 := (le_iff (b := min p e) (by omega) (by omega)).1 h
  rw [le_iff (b := min p e) (by omega) (by omega)]
  exact Nat.le_trans h1 (pow_le2 (by omega))

theorem Le.zero (p e : Int) : Le 0 p e := by unfold Le; rw [Nat.zero_mul]; exact Nat.zero_le _

/-- Rounding never goes past a whole number that is not below. -/
theorem cut_le {neg : Bool} {n drop K : Nat} (h : n ≤ K * 2 ^ drop) : Toward.even.cut neg n drop ≤ K := by
  unfold Toward.cut
  dsimp only
  rw [Nat.one_shiftLeft]
  by_cases hd : drop ≤ n.log2 + 2
  · rw [Nat.min_eq_left hd]
    have hp := pow_pos2 drop
    have hlow : n / 2 ^ drop ≤ K := Nat.div_le_of_le_mul (by rw [Nat.mul_comm]; exact h)
    by_cases he : n / 2 ^ drop = K
    · have hm := Nat.div_add_mod n (2 ^ drop)
      rw [he] at hm
      have hr : n % 2 ^ drop = 0 := by rw [Nat.mul_comm] at hm; omega
      rw [hr, he]
      have h1 : decide (2 ^ drop < 2 * 0) = false := by simp
      have h2 : (2 ^ drop == 2 * 0) = false := by simp
      rw [h1, h2]; simp
    · have : (decide (2 ^ drop < 2 * (n % 2 ^ drop)) || 2 ^ drop == 2 * (n % 2 ^ drop) && n / 2 ^ drop % 2 == 1).toNat ≤ 1 := Bool.toNat_le _
      omega
  · rw [Nat.min_eq_right (by omega)]
    have hlt : n < 2 ^ (n.log2 + 1) := Nat.lt_log2_self
    have hg : 2 ^ (n.log2 + 2) = 2 * 2 ^ (n.log2 + 1) := by rw [Nat.pow_succ 2 (n.log2 + 1), Nat.mul_comm]
    rw [Nat.div_eq_of_lt (by omega), Nat.mod_eq_of_lt (by omega)]
    have h1 : decide (2 ^ (n.log2 + 2) < 2 * n) = false := by simp; omega
    have h2 : (2 ^ (n.log2 + 2) == 2 * n) = false := by simp; omega
    rw [h1, h2]; simp

theorem cut_ge {neg : Bool} {n drop K : Nat} (hK : 0 < K) (h : K * 2 ^ drop ≤ n) : K ≤ Toward.even.cut neg n drop := by
  unfold Toward.cut
  dsimp only
  rw [Nat.one_shiftLeft]
  have hp := pow_pos2 drop
  have h3 : 2 ^ drop ≤ n := Nat.le_trans (Nat.le_mul_of_pos_left _ hK) h
  have hd : drop ≤ n.log2 + 2 := by
    have : n < 2 ^ (n.log2 + 1) := Nat.lt_log2_self
    have h4 : 2 ^ drop < 2 ^ (n.log2 + 1) := Nat.lt_of_le_of_lt h3 this
    have := (Nat.pow_lt_pow_iff_right (by decide : 1 < 2)).1 h4
    omega
  rw [Nat.min_eq_left hd]
  have : K ≤ n / 2 ^ drop := (Nat.le_div_iff_mul_le hp).2 h
  omega

/-- The rung of 2 ^ e. -/
def rungOf (f : Format) (e : Int) : Nat := (e - f.fractionBits - f.leastPlace + 1).toNat * f.binade

theorem rung_le {f : Format} {neg : Bool} {mag : Nat} {place e : Int} (h : Le mag place e) (he : f.leastPlace + f.fractionBits < e) :
    ∃ r, f.nearest neg mag place = f.word neg r ∧ r ≤ rungOf f e := by
  unfold Format.nearest
  by_cases h0 : mag = 0
  · rw [if_pos h0]; exact ⟨0, rfl, Nat.zero_le _⟩
  · rw [if_neg h0]
    dsimp only
    refine ⟨_, rfl, Nat.le_trans (Nat.min_le_left _ _) ?_⟩
    have l1 : 2 ^ mag.log2 ≤ mag := Nat.log2_self_le h0
    have l2 : mag < 2 ^ (mag.log2 + 1) := Nat.lt_log2_self
    generalize mag.log2 = l at *
    generalize hL : f.leastPlace = L at *
    generalize hF : f.fractionBits = F at *
    have hb : f.binade = 2 ^ F := by unfold Format.binade; rw [hF]
    unfold rungOf
    rw [hb, hL, hF, Nat.shiftLeft_eq]
    -- the exponent of the number is at most e
    have hE : place + l ≤ e := by
      have h1 := (le_iff (b := min place e) (by omega) (by omega)).1 h
      have h2 : 2 ^ (l + (place - min place e).toNat) ≤ 2 ^ (e - min place e).toNat := by
        rw [Nat.pow_add]; exact Nat.le_trans (Nat.mul_le_mul_right _ l1) h1
      have := (Nat.pow_le_pow_iff_right (by decide : 1 < 2)).1 h2
      omega
    by_cases hlt : place + l < e
    · have hk : Toward.even.cut neg (mag * 2 ^ (place - max (place + l - F) L).toNat) (max (place + l - F) L - place).toNat ≤ 2 ^ (F + 1) := by
        refine cut_le ?_
        generalize hlast : max (place + l - F) L = last
        have : mag * 2 ^ (place - last).toNat ≤ 2 ^ (l + 1) * 2 ^ (place - last).toNat := Nat.mul_le_mul_right _ (Nat.le_of_lt l2)
        refine Nat.le_trans this ?_
        rw [← Nat.pow_add, ← Nat.pow_add]
        exact pow_le2 (by omega)
      rw [Nat.pow_succ] at hk
      have hlast : (max (place + l - F) L - L).toNat + 2 ≤ (e - F - L + 1).toNat := by omega
      have := Nat.mul_le_mul_right (2 ^ F) hlast
      rw [Nat.add_mul] at this
      omega
    · have heq : place + l = e := by omega
      have hm : mag = 2 ^ l := by
        have h1 := (le_iff (b := min place e) (by omega) (by omega)).1 h
        have h2 : 2 ^ (e - min place e).toNat = 2 ^ l * 2 ^ (place - min place e).toNat := by rw [← Nat.pow_add]; congr 1; omega
        rw [h2] at h1
        have := Nat.le_of_mul_le_mul_right h1 (pow_pos2 _)
        omega
      have hk : Toward.even.cut neg (mag * 2 ^ (place - max (place + l - F) L).toNat) (max (place + l - F) L - place).toNat ≤ 2 ^ F := by
        refine cut_le ?_
        rw [hm, ← Nat.pow_add, ← Nat.pow_add]
        exact pow_le2 (by omega)
      have hlast : (max (place + l - F) L - L).toNat + 1 ≤ (e - F - L + 1).toNat := by omega
      have := Nat.mul_le_mul_right (2 ^ F) hlast
      rw [Nat.add_mul] at this
      omega

theorem rung_ge {f : Format} {neg : Bool} {mag : Nat} {place e : Int} (h : Ge mag place e) (he : f.leastPlace + f.fractionBits ≤ e) :
    ∃ r, f.nearest neg mag place = f.word neg r ∧ min (rungOf f e) f.infRung ≤ r := by
  have h0 : mag ≠ 0 := by
    rintro rfl
    unfold Ge at h
    have := pow_pos2 (e - place).toNat
    omega
  unfold Format.nearest
  rw [if_neg h0]
  dsimp only
  refine ⟨_, rfl, ?_⟩
  have l1 : 2 ^ mag.log2 ≤ mag := Nat.log2_self_le h0
  have l2 : mag < 2 ^ (mag.log2 + 1) := Nat.lt_log2_self
  generalize mag.log2 = l at *
  generalize hL : f.leastPlace = L at *
  generalize hF : f.fractionBits = F at *
  have hb : f.binade = 2 ^ F := by unfold Format.binade; rw [hF]
  unfold rungOf
  rw [hb, hL, hF, Nat.shiftLeft_eq]
  have hE : e ≤ place + l := by
    have h1 := (ge_iff (b := min place e) (by omega) (by omega)).1 h
    have h2 : 2 ^ (e - min place e).toNat < 2 ^ (l + 1 + (place - min place e).toNat) := by
      rw [Nat.pow_add 2 (l + 1)]
      exact Nat.lt_of_le_of_lt h1 ((Nat.mul_lt_mul_right (pow_pos2 _)).2 l2)
    have := (Nat.pow_lt_pow_iff_right (by decide : 1 < 2)).1 h2
    omega
  have hlast : max (place + l - F) L = place + l - F := by omega
  rw [hlast]
  have hk : 2 ^ F ≤ Toward.even.cut neg (mag * 2 ^ (place - (place + l - F)).toNat) ((place + l - F) - place).toNat := by
    refine cut_ge (pow_pos2 F) ?_
    refine Nat.le_trans ?_ (Nat.mul_le_mul_right _ l1)
    rw [← Nat.pow_add, ← Nat.pow_add]
    exact pow_le2 (by omega)
  have hlast : (e - F - L + 1).toNat ≤ (place + l - F - L).toNat + 1 := by omega
  have := Nat.mul_le_mul_right (2 ^ F) hlast
  rw [Nat.add_mul] at this
  omega
/-- x stands for a number of at most 2 ^ e. -/
def Bd (f : Format) (e : Int) (x : Nat) : Prop := ∃ s m p, f.read x = .number s m p ∧ Le m p e
/-- x stands for a number that is not negative and at least 2 ^ e. -/
def Lo (f : Format) (e : Int) (x : Nat) : Prop := ∃ m p, f.read x = .number false m p ∧ Ge m p e

/-- A format of which the rules below speak. -/
structure Good (f : Format) : Prop where
  F : 1 ≤ f.fractionBits
  inf : f.binade < f.infRung
  sw : f.infRung < f.signWeight

theorem good_single : Good single := ⟨by decide +kernel, by decide +kernel, by decide +kernel⟩
theorem good_double : Good double := ⟨by decide +kernel, by decide +kernel, by decide +kernel⟩

theorem read_word {f : Format} (hf : Good f) (neg : Bool) {r : Nat} (hr : r < f.infRung) :
    f.read (f.word neg r) = if r < f.binade then .number neg r f.leastPlace else .number neg (f.binade + r % f.binade) (f.leastPlace + (r / f.binade - 1 : Nat)) := by
  have hs := hf.sw
  unfold Format.read Format.word
  cases neg with
  | false =>
    have h1 : r / f.signWeight = 0 := Nat.div_eq_of_lt (by omega)
    have h2 : r % f.signWeight = r := Nat.mod_eq_of_lt (by omega)
    simp only [Bool.false_eq_true, if_false, h1, h2, if_pos hr]
    rfl
  | true =>
    have h1 : (f.signWeight + r) / f.signWeight = 1 := by
      rw [Nat.add_div_left _ (by omega), Nat.div_eq_of_lt (by omega)]
    have h2 : (f.signWeight + r) % f.signWeight = r := by rw [Nat.add_mod_left, Nat.mod_eq_of_lt (by omega)]
    simp only [if_true, h1, h2, if_pos hr]
    rfl

theorem word_bd {f : Format} (hf : Good f) (neg : Bool) {r : Nat} {e : Int} (he : f.leastPlace + f.fractionBits < e) (hr : r ≤ rungOf f e) (hi : rungOf f e < f.infRung) : Bd f e (f.word neg r) := by
  have hb : f.binade = 2 ^ f.fractionBits := rfl
  have hpos : 0 < f.binade := pow_pos2 _
  unfold Bd
  rw [read_word hf neg (by omega)]
  unfold rungOf at hr
  by_cases h1 : r < f.binade
  · rw [if_pos h1]
    refine ⟨_, _, _, rfl, ?_⟩
    unfold Le
    rw [show (f.leastPlace - e).toNat = 0 by omega, Nat.pow_zero, Nat.mul_one]
    rw [hb] at h1
    exact Nat.le_of_lt (Nat.lt_of_lt_of_le h1 (pow_le2 (by omega)))
  · rw [if_neg h1]
    refine ⟨_, _, _, rfl, ?_⟩
    have hq : r / f.binade ≤ (e - f.fractionBits - f.leastPlace + 1).toNat := Nat.div_le_of_le_mul (by rw [Nat.mul_comm]; exact hr)
    have hq1 : 1 ≤ r / f.binade := (Nat.le_div_iff_mul_le hpos).2 (by omega)
    by_cases he2 : r / f.binade = (e - f.fractionBits - f.leastPlace + 1).toNat
    · have hz : r % f.binade = 0 := by
        have hm := Nat.div_add_mod r f.binade
        rw [he2, Nat.mul_comm] at hm
        omega
      rw [hz, he2, Nat.add_zero, hb]
      unfold Le
      rw [← Nat.pow_add]
      exact pow_le2 (by omega)
    · have hlt : f.binade + r % f.binade < 2 ^ (f.fractionBits + 1) := by
        have := Nat.mod_lt r hpos
        rw [Nat.pow_succ, ← hb]; omega
      unfold Le
      refine Nat.le_trans (Nat.mul_le_mul_right _ (Nat.le_of_lt hlt)) ?_
      rw [← Nat.pow_add]
      exact pow_le2 (by omega)

theorem word_lo {f : Format} (hf : Good f) {r : Nat} {e : Int} (he : f.leastPlace + f.fractionBits ≤ e) (hr : rungOf f e ≤ r) (hi : r < f.infRung) : Lo f e (f.word false r) := by
  have hb : f.binade = 2 ^ f.fractionBits := rfl
  have hpos : 0 < f.binade := pow_pos2 _
  unfold Lo
  rw [read_word hf false (by omega)]
  unfold rungOf at hr
  have h2 : f.binade ≤ r := Nat.le_trans (Nat.le_mul_of_pos_left _ (by omega)) hr
  rw [if_neg (by omega)]
  refine ⟨_, _, rfl, ?_⟩
  have hq : (e - f.fractionBits - f.leastPlace + 1).toNat ≤ r / f.binade := (Nat.le_div_iff_mul_le hpos).2 hr
  unfold Ge
  refine Nat.le_trans ?_ (Nat.mul_le_mul_right _ (Nat.le_add_right _ _))
  rw [hb, ← Nat.pow_add]
  exact pow_le2 (by rw [← hb]; omega)

/-- Rounding. -/
theorem nearest_bd {f : Format} (hf : Good f) {neg : Bool} {m : Nat} {p e : Int} (h : Le m p e) (he : f.leastPlace + f.fractionBits < e) (hi : rungOf f e < f.infRung) : Bd f e (f.nearest neg m p) := by
  obtain ⟨r, hr, h1⟩ := rung_le (neg := neg) h he
  rw [hr]
  exact word_bd hf neg he h1 hi

theorem nearest_lo {f : Format} (hf : Good f) {m : Nat} {p e e' : Int} (h : Ge m p e) (he : f.leastPlace + f.fractionBits ≤ e) (h' : Le m p e') (he' : f.leastPlace + f.fractionBits < e') (hi : rungOf f e' < f.infRung) : Lo f e (f.nearest false m p) := by
  obtain ⟨r, hr, h1⟩ := rung_ge (neg := false) h he
  obtain ⟨r', hr', h2⟩ := rung_le (neg := false) h' he'
  have : r = r' := by rw [hr] at hr'; simpa [Format.word] using hr'
  subst this
  rw [hr]
  exact word_lo hf he (by omega) (by omega)

/-- The exponents for which the rules hold. -/
def In (f : Format) (e : Int) : Prop := f.leastPlace + f.fractionBits < e ∧ rungOf f e < f.infRung

theorem in_double {e : Int} (h1 : -1022 < e) (h2 : e ≤ 1023) : In double e := by
  have a : double.leastPlace = -1074 := by decide +kernel
  have b : double.fractionBits = 52 := rfl
  have c : double.infRung = 2047 * double.binade := by decide +kernel
  refine ⟨by rw [a, b]; omega, ?_⟩
  unfold rungOf
  rw [a, b, c]
  exact (Nat.mul_lt_mul_right (pow_pos2 _)).2 (by omega)
theorem in_single {e : Int} (h1 : -126 < e) (h2 : e ≤ 127) : In single e := by
  have a : single.leastPlace = -149 := by decide +kernel
  have b : single.fractionBits = 23 := rfl
  have c : single.infRung = 255 * single.binade := by decide +kernel
  refine ⟨by rw [a, b]; omega, ?_⟩
  unfold rungOf
  rw [a, b, c]
  exact (Nat.mul_lt_mul_right (pow_pos2 _)).2 (by omega)

theorem signed_abs (s : Bool) (m u : Nat) : (signed s m u).natAbs = m * 2 ^ u := by
  unfold signed; rw [Nat.shiftLeft_eq]; split
  · rw [Int.natAbs_neg, Int.natAbs_natCast]
  · rw [Int.natAbs_natCast]

theorem sum_le {s t : Bool} {m n : Nat} {i j a b e : Int} (h1 : Le m i a) (h2 : Le n j b) (ha : a + 1 ≤ e) (hb : b + 1 ≤ e) :
    Le (signed s m (i - min i j).toNat + signed t n (j - min i j).toNat).natAbs (min i j) e := by
  have g1 := h1.mono (show a ≤ e - 1 by omega)
  have g2 := h2.mono (show b ≤ e - 1 by omega)
  generalize hc : min (min i j) (e - 1) = c
  clear h1 h2
  rw [le_iff (b := c) (by omega) (by omega)] at g1 g2 ⊢
  have hs := Int.natAbs_add_le (signed s m (i - min i j).toNat) (signed t n (j - min i j).toNat)
  rw [signed_abs, signed_abs] at hs
  refine Nat.le_trans (Nat.mul_le_mul_right _ hs) ?_
  rw [Nat.add_mul, Nat.mul_assoc, Nat.mul_assoc, ← Nat.pow_add, ← Nat.pow_add]
  rw [show (i - min i j).toNat + (min i j - c).toNat = (i - c).toNat by omega, show (j - min i j).toNat + (min i j - c).toNat = (j - c).toNat by omega]
  rw [show (e - c).toNat = (e - 1 - c).toNat + 1 by omega, Nat.pow_succ]
  omega

/-- A sum of two numbers, the first of which is at least 2 ^ e, the other not negative. -/
theorem sum_ge {m n : Nat} {i j a : Int} (h1 : Ge m i a) :
    ∃ t : Nat, signed false m (i - min i j).toNat + signed false n (j - min i j).toNat = t ∧ Ge t (min i j) a := by
  refine ⟨m * 2 ^ (i - min i j).toNat + n * 2 ^ (j - min i j).toNat, ?_, ?_⟩
  · unfold signed; simp [Nat.shiftLeft_eq]
  · generalize hc : min (min i j) a = c
    rw [ge_iff (b := c) (by omega) (by omega)] at *
    rw [Nat.add_mul, Nat.mul_assoc, ← Nat.pow_add, show (i - min i j).toNat + (min i j - c).toNat = (i - c).toNat by omega]
    omega

theorem prod_le {m n : Nat} {i j a b e : Int} (h1 : Le m i a) (h2 : Le n j b) (he : a + b ≤ e) : Le (m * n) (i + j) e := by
  refine Le.mono ?_ he
  rw [le_iff (b := min i a) (by omega) (by omega)] at h1
  rw [le_iff (b := min j b) (by omega) (by omega)] at h2
  rw [le_iff (b := min i a + min j b) (by omega) (by omega)]
  have := Nat.mul_le_mul h1 h2
  rw [show (i + j - (min i a + min j b)).toNat = (i - min i a).toNat + (j - min j b).toNat by omega, Nat.pow_add,
    show (a + b - (min i a + min j b)).toNat = (a - min i a).toNat + (b - min j b).toNat by omega, Nat.pow_add]
  calc m * n * (2 ^ (i - min i a).toNat * 2 ^ (j - min j b).toNat) = m * 2 ^ (i - min i a).toNat * (n * 2 ^ (j - min j b).toNat) := by
        rw [Nat.mul_assoc, Nat.mul_assoc, ← Nat.mul_assoc n, Nat.mul_comm n (2 ^ (i - min i a).toNat), Nat.mul_assoc]
    _ ≤ _ := this

/-- A quotient with its sticky digit. -/
theorem quot_le {m n more : Nat} {i j a b e : Int} (h1 : Le m i a) (h2 : Ge n j b) (hD : n ≤ m * 2 ^ more) (hn : 0 < n) (he : a - b ≤ e) :
    Le (2 * (m <<< more / n) + (m <<< more % n != 0).toNat) (i - j - more - 1) e := by
  refine Le.mono ?_ he
  rw [Nat.shiftLeft_eq]
  -- m * 2^i * 2^b ≤ 2^a * n * 2^j
  generalize hc : min i a = c
  generalize hd : min j b = d
  rw [le_iff (b := c) (by omega) (by omega)] at h1
  rw [ge_iff (b := d) (by omega) (by omega)] at h2
  have h3 := Nat.mul_le_mul h1 h2
  have hk : ∃ k : Nat, (a - b) - (i - j - more) = k ∧ m * 2 ^ more ≤ n * 2 ^ k := by
    by_cases hneg : (a - b) - (i - j - more) < 0
    · exfalso
      -- (m 2^more) * 2^(..) ≤ n with more than n
      have e1 : m * 2 ^ (i - c).toNat * 2 ^ (b - d).toNat = m * 2 ^ more * (2 ^ ((i - j - more) - (a - b)).toNat * 2 ^ ((a - c).toNat + (j - d).toNat)) ∨ (i - c).toNat + (b - d).toNat < more + ((i - j - more) - (a - b)).toNat := by
        by_cases hh : (i - c).toNat + (b - d).toNat < more + ((i - j - more) - (a - b)).toNat
        · exact .inr hh
        · left
          rw [Nat.mul_assoc, Nat.mul_assoc, ← Nat.pow_add, ← Nat.pow_add, ← Nat.pow_add]
          congr 2
          omega
      rcases e1 with e1 | e1
      · rw [e1] at h3
        have e2 : 2 ^ (a - c).toNat * (n * 2 ^ (j - d).toNat) = n * 2 ^ ((a - c).toNat + (j - d).toNat) := by
          rw [Nat.pow_add, Nat.mul_left_comm]
        rw [e2, ← Nat.mul_assoc] at h3
        have h4 := Nat.le_of_mul_le_mul_right h3 (pow_pos2 _)
        have h5 : m * 2 ^ more * 2 ≤ m * 2 ^ more * 2 ^ ((i - j - more) - (a - b)).toNat := Nat.mul_le_mul_left _ (by
          have := pow_le2 (show 1 ≤ ((i - j - more) - (a - b)).toNat by omega)
          simpa using this)
        omega
      · omega
    · refine ⟨((a - b) - (i - j - more)).toNat, by omega, ?_⟩
      have e1 : m * 2 ^ (i - c).toNat * 2 ^ (b - d).toNat * 2 ^ more = m * 2 ^ more * 2 ^ ((i - c).toNat + (b - d).toNat) := by
        rw [Nat.mul_assoc m, ← Nat.pow_add, Nat.mul_right_comm]
      have e2 : 2 ^ (a - c).toNat * (n * 2 ^ (j - d).toNat) * 2 ^ more = n * 2 ^ ((a - b) - (i - j - more)).toNat * 2 ^ ((i - c).toNat + (b - d).toNat) := by
        rw [Nat.mul_left_comm, ← Nat.pow_add, Nat.mul_assoc, ← Nat.pow_add, Nat.mul_assoc, ← Nat.pow_add]
        congr 2
        omega
      have h4 := Nat.mul_le_mul_right (2 ^ more) h3
      rw [e1, e2] at h4
      exact Nat.le_of_mul_le_mul_right h4 (pow_pos2 _)
  obtain ⟨k, hk, h4⟩ := hk
  generalize m * 2 ^ more = D at *
  have hdm := Nat.div_add_mod D n
  have hq : 2 * (D / n) + (D % n != 0).toNat ≤ 2 ^ (k + 1) := by
    rw [Nat.pow_succ]
    by_cases hz : D % n = 0
    · have hb : (D % n != 0).toNat = 0 := by simp [hz]
      have := Nat.div_le_of_le_mul (m := D) (k := n) (n := 2 ^ k) (by omega)
      omega
    · have hb : (D % n != 0).toNat = 1 := by simp [hz]
      have : D / n < 2 ^ k := by
        refine (Nat.div_lt_iff_lt_mul hn).2 ?_
        rw [Nat.mul_comm]
        refine Nat.lt_of_le_of_ne h4 fun heq => hz ?_
        rw [heq]; exact Nat.mul_mod_right _ _
      omega
  unfold Le
  refine Nat.le_trans (Nat.mul_le_mul_right _ hq) ?_
  rw [← Nat.pow_add]
  exact pow_le2 (by omega)

theorem more_ge {m n digits : Nat} (hm : m ≠ 0) (hd : 1 ≤ digits) : n ≤ m * 2 ^ (digits + n.log2 - m.log2) := by
  have l1 : 2 ^ m.log2 ≤ m := Nat.log2_self_le hm
  have l2 : n < 2 ^ (n.log2 + 1) := Nat.lt_log2_self
  have h1 : 2 ^ m.log2 * 2 ^ (digits + n.log2 - m.log2) ≤ m * 2 ^ (digits + n.log2 - m.log2) := Nat.mul_le_mul_right _ l1
  rw [← Nat.pow_add] at h1
  have h2 : 2 ^ (n.log2 + 1) ≤ 2 ^ (m.log2 + (digits + n.log2 - m.log2)) := pow_le2 (by omega)
  omega

/-! The operations on words. -/
theorem add_bd {f : Format} (hf : Good f) {x y : Nat} {a b e : Int} (hx : Bd f a x) (hy : Bd f b y) (ha : a + 1 ≤ e) (hb : b + 1 ≤ e) (he : In f e) : ∃ z, f.add x y = some z ∧ Bd f e z := by
  obtain ⟨s, m, i, h1, h2⟩ := hx
  obtain ⟨t, n, j, h3, h4⟩ := hy
  unfold Format.add
  rw [h1, h3]
  exact ⟨_, rfl, nearest_bd hf (sum_le h2 h4 ha hb) he.1 he.2⟩

theorem sub_bd {f : Format} (hf : Good f) {x y : Nat} {a b e : Int} (hx : Bd f a x) (hy : Bd f b y) (ha : a + 1 ≤ e) (hb : b + 1 ≤ e) (he : In f e) : ∃ z, f.sub x y = some z ∧ Bd f e z := by
  obtain ⟨s, m, i, h1, h2⟩ := hx
  obtain ⟨t, n, j, h3, h4⟩ := hy
  unfold Format.sub
  rw [h1, h3]
  exact ⟨_, rfl, nearest_bd hf (sum_le h2 h4 ha hb) he.1 he.2⟩

theorem mul_bd {f : Format} (hf : Good f) {x y : Nat} {a b e : Int} (hx : Bd f a x) (hy : Bd f b y) (he' : a + b ≤ e) (he : In f e) : ∃ z, f.mul x y = some z ∧ Bd f e z := by
  obtain ⟨s, m, i, h1, h2⟩ := hx
  obtain ⟨t, n, j, h3, h4⟩ := hy
  unfold Format.mul
  rw [h1, h3]
  exact ⟨_, rfl, nearest_bd hf (prod_le h2 h4 he') he.1 he.2⟩

theorem div_bd {f : Format} (hf : Good f) {x y : Nat} {a b e : Int} (hx : Bd f a x) (hy : ∃ t n j, f.read y = .number t n j ∧ Ge n j b) (he' : a - b ≤ e) (he : In f e) : ∃ z, f.div x y = some z ∧ Bd f e z := by
  obtain ⟨s, m, i, h1, h2⟩ := hx
  obtain ⟨t, n, j, h3, h4⟩ := hy
  have hn : 0 < n := by
    rcases Nat.eq_zero_or_pos n with h | h
    · subst h; unfold Ge at h4; have := pow_pos2 (b - j).toNat; omega
    · exact h
  unfold Format.div Datum.quotient
  rw [h1, h3]
  simp only [show ¬ n = 0 by omega, if_false]
  refine ⟨_, rfl, nearest_bd hf ?_ he.1 he.2⟩
  by_cases hm : m = 0
  · subst hm; simp; exact Le.zero _ _
  · exact quot_le h2 h4 (more_ge hm (by omega)) hn he'

/-- 1 + what is not negative. -/
theorem add_lo {f : Format} (hf : Good f) {x y : Nat} {a e' : Int} (hx : Lo f a x) (hy : ∃ n j, f.read y = .number false n j) (hxe : Bd f (e' - 1) x) (hye : Bd f (e' - 1) y)
    (ha : f.leastPlace + f.fractionBits ≤ a) (he' : In f e') : ∃ z, f.add x y = some z ∧ Lo f a z ∧ Bd f e' z := by
  obtain ⟨m, i, h1, h2⟩ := hx
  obtain ⟨n, j, h3⟩ := hy
  obtain ⟨_, _, _, h4, h5⟩ := hxe
  obtain ⟨_, _, _, h6, h7⟩ := hye
  rw [h1] at h4; rw [h3] at h6
  cases h4; cases h6
  obtain ⟨t, ht, hge⟩ := sum_ge (n := n) (j := j) h2
  have hle := sum_le (s := false) (t := false) h5 h7 (show e' - 1 + 1 ≤ e' by omega) (show e' - 1 + 1 ≤ e' by omega)
  have hs : Datum.sum (.number false m i) (.number false n j) = some (.number false t (min i j)) := by
    unfold Datum.sum
    simp only [ht]
    have h0 : ¬ (t : Int) < 0 := by omega
    simp [h0]
  rw [ht] at hle
  have hle' : Le t (min i j) e' := by simpa using hle
  refine ⟨f.nearest false t (min i j), by unfold Format.add; rw [h1, h3, hs]; rfl, ?_⟩
  exact ⟨nearest_lo hf hge ha hle' he'.1 he'.2, nearest_bd hf hle' he'.1 he'.2⟩
/-- A quotient that is at most 2 ^ e. -/
theorem quot_core {m n more : Nat} {i j e c : Int} (hc1 : c ≤ i) (hc2 : c ≤ j + e) (h : m * 2 ^ (i - c).toNat ≤ n * 2 ^ (j + e - c).toNat) (hD : n ≤ m * 2 ^ more) (hn : 0 < n) :
    Le (2 * (m <<< more / n) + (m <<< more % n != 0).toNat) (i - j - more - 1) e := by
  rw [Nat.shiftLeft_eq]
  have hk : ∃ k : Nat, e - (i - j - more) = k ∧ m * 2 ^ more ≤ n * 2 ^ k := by
    by_cases hneg : e - (i - j - more) < 0
    · exfalso
      have e1 : (i - c).toNat = more + ((i - j - more) - e).toNat + (j + e - c).toNat := by omega
      rw [e1, Nat.pow_add, ← Nat.mul_assoc] at h
      have h4 := Nat.le_of_mul_le_mul_right h (pow_pos2 _)
      rw [Nat.pow_add, ← Nat.mul_assoc] at h4
      have h5 : m * 2 ^ more * 2 ≤ m * 2 ^ more * 2 ^ ((i - j - more) - e).toNat := Nat.mul_le_mul_left _ (by
        have := pow_le2 (show 1 ≤ ((i - j - more) - e).toNat by omega)
        simpa using this)
      omega
    · refine ⟨(e - (i - j - more)).toNat, by omega, ?_⟩
      have h4 := Nat.mul_le_mul_right (2 ^ more) h
      have e1 : m * 2 ^ (i - c).toNat * 2 ^ more = m * 2 ^ more * 2 ^ (i - c).toNat := by rw [Nat.mul_right_comm]
      have e2 : n * 2 ^ (j + e - c).toNat * 2 ^ more = n * 2 ^ (e - (i - j - more)).toNat * 2 ^ (i - c).toNat := by
        rw [Nat.mul_assoc, ← Nat.pow_add, Nat.mul_assoc, ← Nat.pow_add]
        congr 2
        omega
      rw [e1, e2] at h4
      exact Nat.le_of_mul_le_mul_right h4 (pow_pos2 _)
  obtain ⟨k, hk, h4⟩ := hk
  generalize m * 2 ^ more = D at *
  have hq : 2 * (D / n) + (D % n != 0).toNat ≤ 2 ^ (k + 1) := by
    rw [Nat.pow_succ]
    by_cases hz : D % n = 0
    · have hb : (D % n != 0).toNat = 0 := by simp [hz]
      have := Nat.div_le_of_le_mul (m := D) (k := n) (n := 2 ^ k) (by omega)
      omega
    · have hb : (D % n != 0).toNat = 1 := by simp [hz]
      have : D / n < 2 ^ k := by
        refine (Nat.div_lt_iff_lt_mul hn).2 ?_
        rw [Nat.mul_comm]
        refine Nat.lt_of_le_of_ne h4 fun heq => hz ?_
        rw [heq]; exact Nat.mul_mod_right _ _
      omega
  unfold Le
  refine Nat.le_trans (Nat.mul_le_mul_right _ hq) ?_
  rw [← Nat.pow_add]
  exact pow_le2 (by omega)

/-- x is a number, and not a negative one (-0 is left out). -/
def NN (f : Format) (x : Nat) : Prop := ∃ m p, f.read x = .number false m p

theorem nearest_nn {f : Format} (hf : Good f) {m : Nat} {p e : Int} (h : Le m p e) (he : In f e) : NN f (f.nearest false m p) := by
  obtain ⟨r, hr, h1⟩ := rung_le (neg := false) h he.1
  rw [hr]
  unfold NN
  rw [read_word hf false (by have := he.2; omega)]
  split
  · exact ⟨_, _, rfl⟩
  · exact ⟨_, _, rfl⟩

/-- |x| ≤ |y|, y not 0: the quotient is at most 1. -/
theorem div_one {f : Format} (hf : Good f) {x y : Nat} {s t : Bool} {m n : Nat} {i j : Int} (hx : f.read x = .number s m i) (hy : f.read y = .number t n j) (hn : 0 < n)
    (h : m * 2 ^ (i - min i j).toNat ≤ n * 2 ^ (j - min i j).toNat) (he : In f 0) : ∃ z, f.div x y = some z ∧ Bd f 0 z := by
  unfold Format.div Datum.quotient
  rw [hx, hy]
  simp only [show ¬ n = 0 by omega, if_false]
  refine ⟨_, rfl, nearest_bd hf ?_ he.1 he.2⟩
  by_cases hm : m = 0
  · subst hm; simp; exact Le.zero _ _
  · exact quot_core (c := min i j) (by omega) (by omega) (by simpa using h) (more_ge hm (by omega)) hn

theorem rootFrom_le (n : Nat) : ∀ todo root, root * root ≤ n → Datum.rootFrom n todo root * Datum.rootFrom n todo root ≤ n
  | 0, _, h => h
  | todo + 1, root, h => by
    unfold Datum.rootFrom
    dsimp only
    split
    · exact rootFrom_le n todo _ (by assumption)
    · exact rootFrom_le n todo _ h

theorem sqrt_bd {f : Format} (hf : Good f) {x : Nat} {a e : Int} (hx : ∃ m p, f.read x = .number false m p ∧ Le m p a) (ha : a ≤ 2 * e) (he : In f e) : ∃ z, f.sqrt x = some z ∧ Bd f e z ∧ NN f z := by
  obtain ⟨m, i, h1, h2⟩ := hx
  unfold Format.sqrt Datum.root
  rw [h1]
  dsimp only
  by_cases hm : m = 0
  · subst hm
    simp only [if_true, Option.map_some]
    exact ⟨_, rfl, nearest_bd hf (Le.zero _ _) he.1 he.2, nearest_nn hf (Le.zero _ e) he⟩
  · simp only [if_neg hm, Bool.false_eq_true, if_false, Option.map_some]
    generalize hmore0 : 2 * (f.fractionBits + 2) - m.log2 = more0
    generalize hmore : more0 + ((i - more0) % 2).toNat = more
    have hpar : (i - more) % 2 = 0 := by omega
    obtain ⟨q, hq⟩ : ∃ q, i - more = 2 * q := ⟨(i - more) / 2, by omega⟩
    rw [hq, show 2 * q / 2 = q by omega]
    generalize hn : m <<< more = n
    rw [Nat.shiftLeft_eq] at hn
    have hw := rootFrom_le n (n.log2 / 2 + 1) 0 (by omega)
    generalize Datum.rootFrom n (n.log2 / 2 + 1) 0 = w at *
    have hle : Le (2 * w + (w * w != n).toNat) (q - 1) e := by
      have hb := (le_iff (b := min i (2 * e)) (by omega) (by omega)).1 (h2.mono ha)
      have hpos : 0 < m := by omega
      have hqe : q ≤ e ∧ n ≤ 2 ^ (e - q).toNat * 2 ^ (e - q).toNat := by
        have hb2 := Nat.mul_le_mul_right (2 ^ more) hb
        rw [Nat.mul_right_comm, hn] at hb2
        have hn1 : 2 ^ more ≤ n := by rw [← hn]; exact Nat.le_mul_of_pos_left _ hpos
        have h3 : 2 ^ more * 2 ^ (i - min i (2 * e)).toNat ≤ 2 ^ (2 * e - min i (2 * e)).toNat * 2 ^ more := Nat.le_trans (Nat.mul_le_mul_right _ hn1) hb2
        rw [← Nat.pow_add, ← Nat.pow_add] at h3
        have h4 := (Nat.pow_le_pow_iff_right (by decide : 1 < 2)).1 h3
        have h1q : q ≤ e := by
          by_cases hlt : more = 0
          · omega
          · have : 2 ^ (i - min i (2 * e)).toNat ≤ 2 ^ (2 * e - min i (2 * e)).toNat := pow_le2 (by omega)
            omega
        refine ⟨h1q, ?_⟩
        rw [← Nat.pow_add]
        have e2 : 2 ^ (2 * e - min i (2 * e)).toNat * 2 ^ more = 2 ^ ((e - q).toNat + (e - q).toNat) * 2 ^ (i - min i (2 * e)).toNat := by
          rw [← Nat.pow_add, ← Nat.pow_add]; congr 1; omega
        rw [e2] at hb2
        exact Nat.le_of_mul_le_mul_right hb2 (pow_pos2 _)
      obtain ⟨h5, h6⟩ := hqe
      generalize hK : (e - q).toNat = K at *
      have hwK : w ≤ 2 ^ K := by
        by_cases hc : w ≤ 2 ^ K
        · exact hc
        · exfalso
          have := Nat.mul_lt_mul'' (show 2 ^ K < w by omega) (show 2 ^ K < w by omega)
          omega
      have hq2 : 2 * w + (w * w != n).toNat ≤ 2 ^ (K + 1) := by
        rw [Nat.pow_succ]
        by_cases hz : w * w = n
        · have : (w * w != n).toNat = 0 := by simp [hz]
          omega
        · have h7 : (w * w != n).toNat = 1 := by simp [hz]
          have : w ≠ 2 ^ K := by
            rintro rfl
            exact hz (by omega)
          omega
      unfold Le
      refine Nat.le_trans (Nat.mul_le_mul_right _ hq2) ?_
      rw [← Nat.pow_add]
      exact pow_le2 (by omega)
    exact ⟨_, rfl, nearest_bd hf hle he.1 he.2, nearest_nn hf hle he⟩

theorem mul_self_nn {f : Format} (hf : Good f) {x : Nat} {a e : Int} (hx : Bd f a x) (h : a + a ≤ e) (he : In f e) : ∃ z, f.mul x x = some z ∧ Bd f e z ∧ NN f z := by
  obtain ⟨s, m, i, h1, h2⟩ := hx
  unfold Format.mul
  rw [h1]
  have hle := prod_le h2 h2 h
  refine ⟨_, rfl, nearest_bd hf hle he.1 he.2, ?_⟩
  show NN f (f.nearest (s ^^ s) (m * m) (i + i))
  rw [Bool.xor_self]
  exact nearest_nn hf hle he
theorem dbl : double.leastPlace = -1074 ∧ double.fractionBits = 52 ∧ double.binade = 2 ^ 52 := ⟨by decide +kernel, rfl, rfl⟩

/-- A whole number of fewer than 54 digits is kept as it is. -/
theorem int_exact {neg : Bool} {mag : Nat} (h0 : mag ≠ 0) (h : mag < 2 ^ 53) :
    double.read (double.nearest neg mag 0) = .number neg (mag * 2 ^ (52 - mag.log2)) ((mag.log2 : Int) - 52) := by
  obtain ⟨hL, hF, hB⟩ := dbl
  have l1 : 2 ^ mag.log2 ≤ mag := Nat.log2_self_le h0
  have l2 : mag < 2 ^ (mag.log2 + 1) := Nat.lt_log2_self
  have hl : mag.log2 ≤ 52 := by
    have := (Nat.pow_lt_pow_iff_right (by decide : 1 < 2)).1 (Nat.lt_of_le_of_lt l1 h)
    omega
  generalize hlog : mag.log2 = l at *
  have hmax : max ((0 : Int) + l - (52 : Nat)) (-1074) = (l : Int) - 52 := by omega
  unfold Format.nearest
  rw [if_neg h0]
  dsimp only
  rw [hlog, hL, hF, hmax, show ((0 : Int) - ((l : Int) - 52)).toNat = 52 - l by omega, show ((l : Int) - 52 - 0).toNat = 0 by omega,
    show ((l : Int) - 52 - -1074).toNat = l + 1022 by omega, Nat.shiftLeft_eq]
  have hcut : ∀ N, Toward.even.cut neg N 0 = N := by
    intro N
    have h1 : Toward.even.cut neg N 0 ≤ N := cut_le (by simp)
    rcases Nat.eq_zero_or_pos N with h | h
    · omega
    · have := cut_ge (neg := neg) (drop := 0) h (show N * 2 ^ 0 ≤ N by simp)
      omega
  rw [hcut]
  have hk1 : 2 ^ 52 ≤ mag * 2 ^ (52 - l) := by
    have := Nat.mul_le_mul_right (2 ^ (52 - l)) l1
    rw [← Nat.pow_add, show l + (52 - l) = 52 by omega] at this
    exact this
  have hk2 : mag * 2 ^ (52 - l) < 2 ^ 53 := by
    have := (Nat.mul_lt_mul_right (pow_pos2 (52 - l))).2 l2
    rw [← Nat.pow_add, show l + 1 + (52 - l) = 53 by omega] at this
    exact this
  generalize mag * 2 ^ (52 - l) = K at *
  have hinf : double.infRung = 2047 * 2 ^ 52 := by decide +kernel
  have hlt : (l + 1022) * double.binade + K < double.infRung := by rw [hinf, hB]; omega
  rw [Nat.min_eq_left (Nat.le_of_lt hlt), read_word good_double neg hlt]
  rw [hB] at *
  rw [if_neg (by omega), hL]
  have h1 : ((l + 1022) * 2 ^ 52 + K) % 2 ^ 52 = K - 2 ^ 52 := by omega
  have h2 : ((l + 1022) * 2 ^ 52 + K) / 2 ^ 52 = l + 1023 := by omega
  rw [h1, h2, show 2 ^ 52 + (K - 2 ^ 52) = K by omega, show ((-1074 : Int) + ((l + 1023 - 1 : Nat) : Int)) = (l : Int) - 52 by omega]

/-- A number less than its whole part. -/
theorem frac_bd {x : Nat} {s : Bool} {m : Nat} {d : Nat} (hx : double.read x = .number s m (-(d : Int))) (hd : 0 < d) (hm : m / 2 ^ d < 2 ^ 53) :
    ∃ z, double.sub x (double.nearest s (m / 2 ^ d) 0) = some z ∧ Bd double 0 z := by
  have hIn : In double 0 := in_double (by omega) (by omega)
  generalize hq : m / 2 ^ d = t at *
  have hdm := Nat.div_add_mod m (2 ^ d)
  have hr := Nat.mod_lt m (pow_pos2 d)
  rw [hq, Nat.mul_comm] at hdm
  unfold Format.sub
  rw [hx]
  by_cases h0 : t = 0
  · subst h0
    have hz : double.read (double.nearest s 0 0) = .number s 0 (-1074) := by
      unfold Format.nearest
      rw [if_pos rfl, read_word good_double s (by decide +kernel)]
      rfl
    rw [hz]
    refine ⟨_, rfl, nearest_bd good_double ?_ hIn.1 hIn.2⟩
    generalize hb : min (-(d : Int)) (-1074) = b
    have e : (signed s m (-(d : Int) - b).toNat + signed (!s) 0 ((-1074 : Int) - b).toNat).natAbs = m * 2 ^ (-(d : Int) - b).toNat := by
      have e2 : signed (!s) 0 ((-1074 : Int) - b).toNat = 0 := by unfold signed; rw [Nat.zero_shiftLeft]; simp
      rw [e2, Int.add_zero, signed_abs]
    show Le (signed s m (-(d : Int) - b).toNat + signed (!s) 0 ((-1074 : Int) - b).toNat).natAbs b 0
    rw [e, le_iff (b := b) (Int.le_refl _) (by omega), show (b - b).toNat = 0 by omega, Nat.pow_zero, Nat.mul_one]
    have : m * 2 ^ (-(d : Int) - b).toNat ≤ 2 ^ d * 2 ^ (-(d : Int) - b).toNat := Nat.mul_le_mul_right _ (by omega)
    rw [← Nat.pow_add] at this
    exact Nat.le_trans this (pow_le2 (by omega))
  · rw [int_exact h0 hm]
    have hl : t.log2 ≤ 52 := by
      have := (Nat.pow_lt_pow_iff_right (by decide : 1 < 2)).1 (Nat.lt_of_le_of_lt (Nat.log2_self_le h0) hm)
      omega
    refine ⟨_, rfl, nearest_bd good_double ?_ hIn.1 hIn.2⟩
    generalize hll : t.log2 = l at *
    show Le (signed s m (-(d : Int) - min (-(d : Int)) ((l : Int) - 52)).toNat + signed (!s) (t * 2 ^ (52 - l)) ((l : Int) - 52 - min (-(d : Int)) ((l : Int) - 52)).toNat).natAbs (min (-(d : Int)) ((l : Int) - 52)) 0
    generalize hb : min (-(d : Int)) ((l : Int) - 52) = b
    have e : (signed s m (-(d : Int) - b).toNat + signed (!s) (t * 2 ^ (52 - l)) ((l : Int) - 52 - b).toNat).natAbs = (m - t * 2 ^ d) * 2 ^ (-(d : Int) - b).toNat := by
      have e1 : t * 2 ^ (52 - l) * 2 ^ ((l : Int) - 52 - b).toNat = t * 2 ^ d * 2 ^ (-(d : Int) - b).toNat := by
        rw [Nat.mul_assoc, ← Nat.pow_add, Nat.mul_assoc, ← Nat.pow_add]; congr 2; omega
      have e2 : m * 2 ^ (-(d : Int) - b).toNat = (m - t * 2 ^ d) * 2 ^ (-(d : Int) - b).toNat + t * 2 ^ d * 2 ^ (-(d : Int) - b).toNat := by
        rw [← Nat.add_mul]; congr 1; omega
      unfold signed
      rw [Nat.shiftLeft_eq, Nat.shiftLeft_eq, e1, e2]
      generalize (m - t * 2 ^ d) * 2 ^ (-(d : Int) - b).toNat = A
      generalize t * 2 ^ d * 2 ^ (-(d : Int) - b).toNat = B
      cases s <;> simp <;> omega
    rw [e, le_iff (b := b) (Int.le_refl _) (by omega), show (b - b).toNat = 0 by omega, Nat.pow_zero, Nat.mul_one]
    have : (m - t * 2 ^ d) * 2 ^ (-(d : Int) - b).toNat ≤ 2 ^ d * 2 ^ (-(d : Int) - b).toNat := Nat.mul_le_mul_right _ (by omega)
    rw [← Nat.pow_add] at this
    exact Nat.le_trans this (pow_le2 (by omega))

/-- Every number below 2 ^ 52 has a place below 0. -/
theorem place_neg {x : Nat} {s : Bool} {m : Nat} {p : Int} (hx : double.read x = .number s m p) (h : m * 2 ^ p.toNat < 2 ^ 52 ∨ p < 0) : p < 0 := by
  obtain ⟨hL, hF, hB⟩ := dbl
  rcases h with h | h
  · unfold Format.read at hx
    dsimp only at hx
    split at hx
    · cases hx; rw [hL]; omega
    · split at hx
      · cases hx
        rw [hB] at h
        have := pow_pos2 (double.leastPlace + ((x % double.signWeight / 2 ^ 52 - 1 : Nat) : Int)).toNat
        have h2 : 2 ^ 52 ≤ (2 ^ 52 + x % double.signWeight % 2 ^ 52) * 2 ^ (double.leastPlace + ((x % double.signWeight / 2 ^ 52 - 1 : Nat) : Int)).toNat := Nat.le_trans (Nat.le_add_right _ _) (Nat.le_mul_of_pos_right _ this)
        omega
      · split at hx <;> cases hx
  · exact h

/-- The whole part. -/
theorem toInt_zero {s : Bool} {m d : Nat} (hd : 0 < d) : (Datum.number s m (-(d : Int))).toInt .zero = some (if s then -((m / 2 ^ d : Nat) : Int) else ((m / 2 ^ d : Nat) : Int)) := by
  unfold Datum.toInt Datum.integral
  dsimp only
  have e : Toward.zero.cut s (m <<< (-(d : Int)).toNat) (- -(d : Int)).toNat = m / 2 ^ d := by
    rw [show (-(d : Int)).toNat = 0 by omega, show (- -(d : Int)).toNat = d by omega, Nat.shiftLeft_zero]
    unfold Toward.cut
    dsimp only
    rw [Nat.one_shiftLeft, Bool.toNat_false, Nat.add_zero]
    by_cases h : d ≤ m.log2 + 2
    · rw [Nat.min_eq_left h]
    · rw [Nat.min_eq_right (by omega)]
      have hlt : m < 2 ^ (m.log2 + 1) := Nat.lt_log2_self
      have h1 : 2 ^ (m.log2 + 1) ≤ 2 ^ (m.log2 + 2) := pow_le2 (by omega)
      have h2 : 2 ^ (m.log2 + 1) ≤ 2 ^ d := pow_le2 (by omega)
      rw [Nat.div_eq_of_lt (by omega), Nat.div_eq_of_lt (by omega)]
  rw [e]
  unfold signed
  rw [Nat.shiftLeft_zero]
end Fb
