/-
  Plain mathematics: differences, quotients and the logarithm of normal 64-bit words, quick in the kernel. Conditions: none.
-/
import Derived.Test.YtbphigmpcjodkaaFf
import Derived.Test.YtbphigmpcjodkaaLg
set_option linter.unusedVariables false
set_option linter.unusedSimpArgs false
namespace Ff
open Ieee Go Fb

/-! ### Differences -/
def flip (y : Nat) : Nat := cond (Nat.ble 9223372036854775808 y) (Nat.sub y 9223372036854775808) (Nat.add y 9223372036854775808)
theorem flip_parts {y : Nat} (h : y < 18446744073709551616) : flip y < 18446744073709551616 ∧ ex (flip y) = ex y ∧ mn (flip y) = mn y ∧ (sg (flip y) == 1) = !(sg y == 1) := by
  rw [ex_eq, ex_eq, mn_eq, mn_eq, sg_eq, sg_eq]
  have e : flip y = if 9223372036854775808 ≤ y then y - 9223372036854775808 else y + 9223372036854775808 := by
    unfold flip
    cases hb : Nat.ble 9223372036854775808 y with
    | true => rw [cond_true, if_pos (Nat.le_of_ble_eq_true hb)]; rfl
    | false =>
      have : ¬ 9223372036854775808 ≤ y := fun h => by rw [Nat.ble_eq_true_of_le h] at hb; cases hb
      rw [cond_false, if_neg this]
  rw [e]
  split
  · rename_i h1
    have a1 : (y - 9223372036854775808) / 9223372036854775808 = 0 := by omega
    have a2 : y / 9223372036854775808 = 1 := by omega
    rw [a1, a2]
    exact ⟨by omega, by omega, by omega, rfl⟩
  · rename_i h1
    have a1 : (y + 9223372036854775808) / 9223372036854775808 = 1 := by omega
    have a2 : y / 9223372036854775808 = 0 := by omega
    rw [a1, a2]
    exact ⟨by omega, by omega, by omega, rfl⟩
def subW (x y : Nat) : Option Nat := cond (okw y) (fc (flip y) fun z => addW x z) (floatBits .sub .f64 x y)
theorem subW_eq (x y : Nat) : subW x y = floatBits .sub .f64 x y := by
  unfold subW
  cases hc : okw y with
  | false => rfl
  | true =>
    obtain ⟨y1, y2, y3⟩ := okw_of hc
    obtain ⟨f1, f2, f3, f4⟩ := flip_parts y1
    rw [cond_true, fc_eq, addW_eq]
    show double.add x (flip y) = double.sub x y
    unfold Format.add Format.sub
    rw [read_nrm f1 (by omega) (by omega), read_nrm y1 y2 y3, f2, f3, f4]
    rfl

/-! ### Quotients -/
def quo1 (s m n E : Nat) : Nat := fc (Nat.shiftLeft m 54) fun p => fc n fun n => fc (Nat.add (Nat.mul 2 (Nat.div p n)) (cond (Nat.beq (Nat.mod p n) 0) 0 1)) fun q =>
  fc (Nat.shiftRight q 55) fun b => fin s q (Nat.add E b) (Nat.add 2 b)
def quoW (x y : Nat) : Option Nat :=
  cond (okw x && (okw y && (Nat.ble (ex y) (Nat.add (ex x) 1020) && Nat.ble (ex x) (Nat.add (ex y) 1020))))
    (some (quo1 (Nat.xor (sg x) (sg y)) (mn x) (mn y) (Nat.sub (Nat.add (ex x) 1021) (ex y)))) (floatBits .quo .f64 x y)
theorem log52 {m : Nat} (h1 : 4503599627370496 ≤ m) (h2 : m < 9007199254740992) : m.log2 = 52 := by
  apply (Nat.log2_eq_iff (by omega)).2; constructor <;> omega
theorem quoW_eq (x y : Nat) : quoW x y = floatBits .quo .f64 x y := by
  unfold quoW
  cases hc : (okw x && (okw y && (Nat.ble (ex y) (Nat.add (ex x) 1020) && Nat.ble (ex x) (Nat.add (ex y) 1020)))) with
  | false => rfl
  | true =>
    simp only [Bool.and_eq_true, Nat.ble_eq] at hc
    obtain ⟨h1, h2, h3, h4⟩ := hc
    obtain ⟨x1, x2, x3⟩ := okw_of h1
    obtain ⟨y1, y2, y3⟩ := okw_of h2
    have h3' : ex y ≤ ex x + 1020 := h3
    have h4' : ex x ≤ ex y + 1020 := h4
    have hmx := mn_bd x; have hmy := mn_bd y
    rw [cond_true]
    show some _ = double.div x y
    unfold Format.div Datum.quotient
    rw [read_nrm x1 x2 x3, read_nrm y1 y2 y3]
    have hE : Nat.sub (Nat.add (ex x) 1021) (ex y) = ex x + 1021 - ex y := rfl
    rw [hE]
    generalize hm : mn x = m at *
    generalize hn : mn y = n at *
    have hn0 : ¬ n = 0 := by omega
    simp only [hn0, if_false]
    rw [log52 hmx.1 hmx.2, log52 hmy.1 hmy.2, show double.fractionBits + 2 + 52 - 52 = 54 from rfl, Nat.shiftLeft_eq]
    have hlo : 9007199254740992 ≤ m * 2 ^ 54 / n := (Nat.le_div_iff_mul_le (by omega)).2
      (Nat.le_trans (Nat.mul_le_mul_left 9007199254740992 (Nat.le_of_lt hmy.2)) (Nat.le_trans (by decide : 9007199254740992 * 9007199254740992 ≤ 4503599627370496 * 2 ^ 54) (Nat.mul_le_mul_right _ hmx.1)))
    have hhi : m * 2 ^ 54 / n < 36028797018963968 := (Nat.div_lt_iff_lt_mul (by omega)).2
      (Nat.lt_of_lt_of_le ((Nat.mul_lt_mul_right (by decide)).2 hmx.2) (Nat.le_trans (by decide : 9007199254740992 * 2 ^ 54 ≤ 36028797018963968 * 4503599627370496) (Nat.mul_le_mul_left _ hmy.1)))
    show some _ = some (double.nearest ((sg x == 1) ^^ (sg y == 1)) (2 * (m * 2 ^ 54 / n) + (m * 2 ^ 54 % n != 0).toNat) ((ex x : Int) - 1075 - ((ex y : Int) - 1075) - (54 : Nat) - 1))
    apply congrArg some
    unfold quo1
    rw [fc_eq, fc_eq, fc_eq, fc_eq]
    have hp : Nat.shiftLeft m 54 = m * 2 ^ 54 := by show m <<< 54 = _; rw [Nat.shiftLeft_eq]
    rw [hp]
    generalize hP : m * 2 ^ 54 = P at *
    have hrest : cond (Nat.beq (Nat.mod P n) 0) 0 1 = (P % n != 0).toNat := by
      have : Nat.mod P n = P % n := rfl
      rw [this]
      generalize P % n = r
      cases r with
      | zero => rfl
      | succ r => rfl
    have hmag : Nat.add (Nat.mul 2 (Nat.div P n)) (cond (Nat.beq (Nat.mod P n) 0) 0 1) = 2 * (P / n) + (P % n != 0).toNat := by rw [hrest]; rfl
    rw [hmag]
    have hb1 : (P % n != 0).toNat ≤ 1 := Bool.toNat_le _
    generalize hQ : 2 * (P / n) + (P % n != 0).toNat = Q at *
    have hq1 : 2 ^ 54 ≤ Q := by omega
    have hq2 : Q < 2 ^ 56 := by omega
    show _ = _
    have hsr : Nat.shiftRight Q 55 = Q / 2 ^ 55 := by show Q >>> 55 = _; rw [Nat.shiftRight_eq_div_pow]
    rw [hsr, xor_bit (sg_lt x1) (sg_lt y1)]
    have hb : Q / 2 ^ 55 = 0 ∧ Q < 2 ^ 55 ∨ Q / 2 ^ 55 = 1 ∧ 2 ^ 55 ≤ Q := by omega
    rcases hb with ⟨hb, hlt⟩ | ⟨hb, hge⟩
    · rw [hb, near_big _ (l := 54) (d := 2) (L := ex x + 1021 - ex y) (by omega) ((Nat.log2_eq_iff (by omega)).2 ⟨hq1, hlt⟩) rfl (by decide) (by omega) (by omega)]
      exact fin_eq _ Q (ex x + 1021 - ex y) 2
    · rw [hb, near_big _ (l := 55) (d := 3) (L := ex x + 1021 - ex y + 1) (by omega) ((Nat.log2_eq_iff (by omega)).2 ⟨hge, hq2⟩) rfl (by decide) (by omega) (by omega)]
      exact fin_eq _ Q (ex x + 1021 - ex y + 1) 3

/-! ### Chains -/
/-- Goes on with what is there, reckoned out. -/
def bo {α : Type} (o : Option Nat) (d : α) (f : Nat → α) : α := match o with
  | some v => fc v f
  | none => d
theorem bo_some {α : Type} {o : Option Nat} {d : α} {f : Nat → α} {v : Nat} (h : o = some v) : bo o d f = f v := by subst h; exact fc_eq v f
theorem bo_true {o : Option Nat} {f : Nat → Bool} (h : bo o false f = true) : ∃ v, o = some v ∧ f v = true := by
  cases o with
  | none => cases h
  | some v => exact ⟨v, rfl, by rwa [bo_some rfl] at h⟩
theorem bo_opt {o : Option Nat} {f : Nat → Option Nat} {r : Nat} (h : bo o none f = some r) : ∃ v, o = some v ∧ f v = some r := by
  cases o with
  | none => cases h
  | some v => exact ⟨v, rfl, by rwa [bo_some rfl] at h⟩
theorem F_of {op : BinOp} {x y z : Nat} (h : floatBits op .f64 x y = some z) : F op x y = z := by unfold F; rw [h]; rfl

/-- The series on from q: constants cs. -/
def lqL (u : Nat) : List Nat → Nat → Option Nat
  | [], q => some q
  | c :: cs, q => bo (mulW u q) none fun a => bo (addW c a) none fun b => lqL u cs b
theorem lqL_lq {u : Nat} : ∀ (n j v : Nat), lqL u ((List.range' j n).map Co) (lq u j) = some v → lq u (j + n) = v
  | 0, j, v, h => by
    simp only [List.range'_zero, List.map_nil, lqL, Option.some.injEq] at h
    exact h
  | n + 1, j, v, h => by
    rw [List.range'_succ, List.map_cons] at h
    unfold lqL at h
    obtain ⟨a, ha, h⟩ := bo_opt h
    obtain ⟨b, hb, h⟩ := bo_opt h
    rw [mulW_eq] at ha
    rw [addW_eq] at hb
    have e : lq u (j + 1) = b := by
      show F .add (Co j) (F .mul u (lq u j)) = b
      rw [F_of ha, F_of hb]
    rw [← e] at h
    have := lqL_lq n (j + 1) v h
    rw [show j + (n + 1) = j + 1 + n by omega]; exact this
def CoT : List Nat := [4586426698778222948, 4587023449039406616, 4587745830934523688, 4588638185040256542, 4589468260265693457, 4590207312512236308, 4591215111030249286, 4592670820000712476, 4594314991293244562, 4596373779694328218, 4599676419421066581, 4607182418800017408]
theorem coT : CoT = (List.range' 1 12).map Co := by kernel_rfl
def Co0 : Nat := 4585925428558828667
theorem co0 : Co 0 = Co0 ∧ floatBits .add .f64 Co0 0 = some Co0 := by decide +kernel
theorem mul_zero_pos {u : Nat} (h : okw u = true) (hs : sg u = 0) : floatBits .mul .f64 u 0 = some 0 := by
  obtain ⟨u1, u2, u3⟩ := okw_of h
  have r0 : double.read 0 = .number false 0 (-1074) := by decide +kernel
  show double.mul u 0 = _
  unfold Format.mul
  rw [read_nrm u1 u2 u3, r0, hs]
  show some (double.nearest (false ^^ false) (mn u * 0) _) = _
  rw [Nat.mul_zero]
  rfl
theorem lq_one {u : Nat} (h : okw u = true) (hs : sg u = 0) : lq u 1 = Co0 := by
  show F .add (Co 0) (F .mul u 0) = _
  rw [F_of (mul_zero_pos h hs), co0.1, F_of co0.2]

/-- Twice the series at x. -/
def ltO (x : Nat) : Option Nat :=
  bo (subW x 4607182418800017408) none fun a => bo (addW x 4607182418800017408) none fun b => bo (quoW a b) none fun s => bo (mulW s s) none fun u =>
    cond (okw u && Nat.beq (sg u) 0) (bo (lqL u CoT Co0) none fun q => bo (mulW s q) none fun p => mulW 4611686018427387904 p) none
theorem ltO_eq {x v : Nat} (h : ltO x = some v) : lt2 x = v := by
  unfold ltO at h
  obtain ⟨a, ha, h⟩ := bo_opt h
  obtain ⟨b, hb, h⟩ := bo_opt h
  obtain ⟨s, hs, h⟩ := bo_opt h
  obtain ⟨u, hu, h⟩ := bo_opt h
  cases hc : (okw u && Nat.beq (sg u) 0) with
  | false => rw [hc] at h; cases h
  | true =>
    rw [hc, cond_true] at h
    obtain ⟨q, hq, h⟩ := bo_opt h
    obtain ⟨p, hp, h⟩ := bo_opt h
    rw [Bool.and_eq_true] at hc
    rw [subW_eq] at ha; rw [addW_eq] at hb; rw [quoW_eq] at hs; rw [mulW_eq] at hu hp h
    have e1 : ls x = s := by
      show F .quo (F .sub x W1) (F .add x W1) = s
      have ha' : floatBits .sub .f64 x W1 = some a := ha
      have hb' : floatBits .add .f64 x W1 = some b := hb
      rw [F_of ha', F_of hb', F_of hs]
    have e2 : lu x = u := by show F .mul (ls x) (ls x) = u; rw [e1, F_of hu]
    have e3 : lq u 13 = q := by
      rw [coT, ← lq_one hc.1 (Nat.eq_of_beq_eq_true hc.2)] at hq
      exact lqL_lq 12 1 q hq
    have e4 : lp x = p := by show F .mul (ls x) (lq (lu x) 13) = p; rw [e2, e3, e1, F_of hp]
    show F .mul W2 (lp x) = v
    have h' : floatBits .mul .f64 W2 p = some v := h
    rw [e4, F_of h']

end Ff
