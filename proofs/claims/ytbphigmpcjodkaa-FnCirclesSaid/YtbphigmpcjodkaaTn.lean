/-
  Plain mathematics: tenths of decibels of 64ths: what was reckoned out, as facts. Conditions: none.
-/
import Derived.Test.YtbphigmpcjodkaaFi
import Derived.Test.YtbphigmpcjodkaaFj
import Derived.Test.YtbphigmpcjodkaaFk
set_option linter.unusedVariables false
set_option linter.unusedSimpArgs false
namespace Ff
open Ieee Go Fb

theorem chk_in {o n q : Nat} (h : ((List.range n).all fun i => chkQ (Nat.add o i)) = true) (h1 : o ≤ q) (h2 : q < o + n) : chkQ q = true := by
  have := List.all_eq_true.1 h (q - o) (List.mem_range.2 (by omega))
  have e : Nat.add o (q - o) = q := by show o + (q - o) = q; omega
  rwa [e] at this
theorem chkQ_all {q : Nat} (h1 : 1 ≤ q) (h2 : q < 20001) : chkQ q = true := by
  by_cases h1 : q < 251
  · exact chk_in tq1 (by omega) (by omega)
  by_cases h251 : q < 501
  · exact chk_in tq251 (by omega) (by omega)
  by_cases h501 : q < 751
  · exact chk_in tq501 (by omega) (by omega)
  by_cases h751 : q < 1001
  · exact chk_in tq751 (by omega) (by omega)
  by_cases h1001 : q < 1251
  · exact chk_in tq1001 (by omega) (by omega)
  by_cases h1251 : q < 1501
  · exact chk_in tq1251 (by omega) (by omega)
  by_cases h1501 : q < 1751
  · exact chk_in tq1501 (by omega) (by omega)
  by_cases h1751 : q < 2001
  · exact chk_in tq1751 (by omega) (by omega)
  by_cases h2001 : q < 2501
  · exact chk_in tq2001 (by omega) (by omega)
  by_cases h2501 : q < 3001
  · exact chk_in tq2501 (by omega) (by omega)
  by_cases h3001 : q < 3501
  · exact chk_in tq3001 (by omega) (by omega)
  by_cases h3501 : q < 4001
  · exact chk_in tq3501 (by omega) (by omega)
  by_cases h4001 : q < 4501
  · exact chk_in tq4001 (by omega) (by omega)
  by_cases h4501 : q < 5001
  · exact chk_in tq4501 (by omega) (by omega)
  by_cases h5001 : q < 5501
  · exact chk_in tq5001 (by omega) (by omega)
  by_cases h5501 : q < 6001
  · exact chk_in tq5501 (by omega) (by omega)
  by_cases h6001 : q < 7001
  · exact chk_in tq6001 (by omega) (by omega)
  by_cases h7001 : q < 8001
  · exact chk_in tq7001 (by omega) (by omega)
  by_cases h8001 : q < 9001
  · exact chk_in tq8001 (by omega) (by omega)
  by_cases h9001 : q < 10001
  · exact chk_in tq9001 (by omega) (by omega)
  by_cases h10001 : q < 11001
  · exact chk_in tq10001 (by omega) (by omega)
  by_cases h11001 : q < 12001
  · exact chk_in tq11001 (by omega) (by omega)
  by_cases h12001 : q < 13001
  · exact chk_in tq12001 (by omega) (by omega)
  by_cases h13001 : q < 14001
  · exact chk_in tq13001 (by omega) (by omega)
  by_cases h14001 : q < 15001
  · exact chk_in tq14001 (by omega) (by omega)
  by_cases h15001 : q < 16001
  · exact chk_in tq15001 (by omega) (by omega)
  by_cases h16001 : q < 17001
  · exact chk_in tq16001 (by omega) (by omega)
  by_cases h17001 : q < 18001
  · exact chk_in tq17001 (by omega) (by omega)
  by_cases h18001 : q < 19001
  · exact chk_in tq18001 (by omega) (by omega)
  by_cases h19001 : q < 20001
  · exact chk_in tq19001 (by omega) (by omega)
  omega

theorem chkT_at {lt : Nat} : ∀ (n k e s : Nat), chkT lt n k e = true → s < n → k * 2 ^ s ≤ 40000 → chk lt (k * 2 ^ s) (e + s) = true
  | 0, k, e, s, _, hs, _ => by omega
  | n + 1, k, e, s, h, hs, hk => by
    unfold chkT at h
    have hk1 : Nat.ble k 40000 = true := Nat.ble_eq_true_of_le (by
      have : k * 1 ≤ k * 2 ^ s := Nat.mul_le_mul_left _ (pow_pos2 s)
      omega)
    rw [hk1, cond_true, Bool.and_eq_true, fc_eq, fc_eq] at h
    cases s with
    | zero => rw [Nat.pow_zero, Nat.mul_one, Nat.add_zero]; exact h.1
    | succ s =>
      have e1 : k * 2 ^ (s + 1) = 2 * k * 2 ^ s := by rw [Nat.pow_succ, Nat.mul_comm 2 k, Nat.mul_assoc, Nat.mul_comm 2 (2 ^ s)]
      have := chkT_at n (2 * k) (e + 1) s h.2 (by omega) (by rw [← e1]; exact hk)
      rw [e1, show e + (s + 1) = e + 1 + s by omega]; exact this

theorem leT_eq : ∀ e : Nat, e < 17 → leT.getD e 0 = le2 ((e : Int) - 6) := by decide +kernel
theorem lt2_one : lt2 W1 = 0 := by decide +kernel

/-! ### The words -/
def wk (k l : Nat) : Nat := (1016 + l) * 4503599627370496 + k * 2 ^ (52 - l)
theorem wK_eq {k l : Nat} (h : k.log2 = l) : wK k = wk k l := by
  unfold wK
  rw [fc_eq, h]
  show (1016 + l) * 4503599627370496 + k <<< (52 - l) = _
  rw [Nat.shiftLeft_eq]; rfl
theorem log_mul {d l s : Nat} (h0 : d ≠ 0) (h : d.log2 = l) : (d * 2 ^ s).log2 = l + s := by
  have h1 := (Nat.log2_eq_iff h0).1 h
  have hp := pow_pos2 s
  apply (Nat.log2_eq_iff (Nat.mul_ne_zero h0 (by omega))).2
  constructor
  · rw [Nat.pow_add]; exact Nat.mul_le_mul_right _ h1.1
  · rw [show l + s + 1 = l + 1 + s by omega, Nat.pow_add]; exact (Nat.mul_lt_mul_right hp).2 h1.2
theorem norm_of {x y : Nat} {t : Int} (h1 : 4604930618986332160 ≤ x) (h2 : x < 4609434218613702656) (hy : (y : Int) = x + t * 4503599627370496) : Y2 y = x ∧ Ex y = t := by
  unfold Ex Y2 Y1 J2 J1
  by_cases ht : 1 ≤ t
  · have a : 4609434218613702656 ≤ y := by omega
    have b : (y - 4609434218613702656) / 4503599627370496 + 1 = t.toNat := by omega
    rw [if_pos a, b]
    have c : y - t.toNat * 4503599627370496 = x := by omega
    rw [c, if_neg (by omega)]
    constructor <;> omega
  · have a : ¬ 4609434218613702656 ≤ y := by omega
    rw [if_neg a, Nat.zero_mul, Nat.sub_zero]
    by_cases h0 : t = 0
    · subst h0
      rw [if_neg (by omega)]
      constructor <;> omega
    · rw [if_pos (by omega)]
      have b : (4604930618986332159 - y) / 4503599627370496 + 1 = (-t).toNat := by omega
      rw [b]
      constructor <;> omega

/-- All that is known of a 64th d * 2 ^ s. -/
structure Tk (k N : Nat) : Prop where
  y2 : 874 * 4503599627370496 ≤ wK k ∧ wK k < 1151 * 4503599627370496
  m : floatBits .mul .f64 (logF (wK k)) 4631308968768463603 = some (F .mul (logF (wK k)) 4631308968768463603)
  a : floatBits .add .f64 (F .mul (logF (wK k)) 4631308968768463603) Whalf = some (F .add (F .mul (logF (wK k)) 4631308968768463603) Whalf)
  n : flo (F .add (F .mul (logF (wK k)) 4631308968768463603) Whalf) = some N
  up : pw k 300 * pw 10 600 < pw 64 300 * pw 10 (3 * N + 2)
  lo : pw 64 300 * pw 10 (3 * N) < pw k 300 * pw 10 602

theorem pOK_of {k N : Nat} (h : pOK k N = true) : pw k 300 * pw 10 600 < pw 64 300 * pw 10 (3 * N + 2) ∧ pw 64 300 * pw 10 (3 * N) < pw k 300 * pw 10 602 := by
  unfold pOK at h
  rw [fc_eq, Bool.and_eq_true] at h
  exact ⟨of_blt h.1, of_blt h.2⟩

theorem eN_le {d l : Nat} (hl : d.log2 = l) : eN d ≤ l + 1 := by
  unfold eN
  rw [fc_eq, hl]
  generalize Nat.ble 2251799813685248 (Nat.land (wK d) 4503599627370495) = b
  cases b
  · exact Nat.le_succ l
  · exact Nat.le_refl _
theorem l15 {d l s : Nat} (h0 : d ≠ 0) (hl : d.log2 = l) (hk : d * 2 ^ s ≤ 40000) : l + s ≤ 15 := by
  have hk0 : d * 2 ^ s ≠ 0 := Nat.mul_ne_zero h0 (by have := pow_pos2 s; omega)
  have h1 := Nat.log2_self_le hk0
  rw [log_mul (s := s) h0 hl] at h1
  have : 2 ^ (l + s) < 2 ^ 16 := by omega
  have := (Nat.pow_lt_pow_iff_right (by decide : 1 < 2)).1 this
  omega

theorem wk_bd {r K : Nat} (h : r ≤ 15) (h1 : 4503599627370496 ≤ K) (h2 : K < 9007199254740992) : 874 * 4503599627370496 ≤ (1016 + r) * 4503599627370496 + K ∧ (1016 + r) * 4503599627370496 + K < 1151 * 4503599627370496 := by
  omega

set_option maxHeartbeats 2000000 in
theorem tk_of {d l s e lt : Nat} (h0 : d ≠ 0) (hl : d.log2 = l) (hk : d * 2 ^ s ≤ 40000) (hx : lt2 (xN d) = lt) (he : eN d = e) (hc : chk lt (d * 2 ^ s) (e + s) = true) : ∃ N, Tk (d * 2 ^ s) N := by
  have hk0 : d * 2 ^ s ≠ 0 := Nat.mul_ne_zero h0 (by have := pow_pos2 s; omega)
  have hls := log_mul (s := s) h0 hl
  have hlk : l + s ≤ 15 := l15 h0 hl hk
  have he17 : e + s < 17 := by have h := eN_le hl; rw [he] at h; omega
  have hd := (Nat.log2_eq_iff h0).1 hl
  obtain ⟨K, hK⟩ : ∃ K, d * 2 ^ (52 - l) = K := ⟨_, rfl⟩
  have hK1 : 4503599627370496 ≤ K := by
    have := Nat.mul_le_mul_right (2 ^ (52 - l)) hd.1
    rw [← Nat.pow_add, show l + (52 - l) = 52 by omega, hK] at this
    exact this
  have hK2 : K < 9007199254740992 := by
    have := (Nat.mul_lt_mul_right (pow_pos2 (52 - l))).2 hd.2
    rw [← Nat.pow_add, show l + 1 + (52 - l) = 53 by omega, hK] at this
    exact this
  have hwd : wK d = (1016 + l) * 4503599627370496 + K := by rw [wK_eq hl]; unfold wk; rw [hK]
  have hwk : wK (d * 2 ^ s) = (1016 + (l + s)) * 4503599627370496 + K := by
    rw [wK_eq hls]; unfold wk
    rw [Nat.mul_assoc, ← Nat.pow_add, show s + (52 - (l + s)) = 52 - l by omega, hK]
  have hf : Nat.land (wK d) 4503599627370495 = K - 4503599627370496 := by
    show wK d &&& 4503599627370495 = _
    rw [Nat.and_two_pow_sub_one_eq_mod _ 52, hwd]; omega
  have hxe : ∃ t : Int, ((wK (d * 2 ^ s) : Nat) : Int) = xN d + t * 4503599627370496 ∧ t = ((e + s : Nat) : Int) - 6 ∧ 4604930618986332160 ≤ xN d ∧ xN d < 4609434218613702656 := by
    have e1 : xN d = cond (Nat.ble 2251799813685248 (K - 4503599627370496)) (Nat.add 4602678819172646912 (K - 4503599627370496)) (Nat.add 4607182418800017408 (K - 4503599627370496)) := by
      unfold xN; rw [fc_eq, hf]
    have e2 : e = cond (Nat.ble 2251799813685248 (K - 4503599627370496)) (Nat.add l 1) l := by
      rw [← he]; unfold eN; rw [fc_eq, hf, hl]
    rw [hwk]
    cases hb : Nat.ble 2251799813685248 (K - 4503599627370496) with
    | true =>
      have h3 := Nat.le_of_ble_eq_true hb
      rw [hb, cond_true] at e1 e2
      have e1' : xN d = 4602678819172646912 + (K - 4503599627370496) := e1
      have e2' : e = l + 1 := e2
      rw [e1', e2']
      exact ⟨((l + 1 + s : Nat) : Int) - 6, by omega, rfl, by omega, by omega⟩
    | false =>
      have h3 : ¬ 2251799813685248 ≤ K - 4503599627370496 := fun h => by rw [Nat.ble_eq_true_of_le h] at hb; cases hb
      rw [hb, cond_false] at e1 e2
      have e1' : xN d = 4607182418800017408 + (K - 4503599627370496) := e1
      rw [e1', e2]
      exact ⟨((l + s : Nat) : Int) - 6, by omega, rfl, by omega, by omega⟩
  obtain ⟨t, ht, hte, hx1, hx2⟩ := hxe
  obtain ⟨n1, n2⟩ := norm_of hx1 hx2 ht
  have hle : leT.getD (e + s) 0 = le2 (Ex (wK (d * 2 ^ s))) := by rw [leT_eq _ he17, n2, hte]
  unfold chk at hc
  rw [hle] at hc
  obtain ⟨a, ha, hc⟩ := bo_true hc
  obtain ⟨b, hb, hc⟩ := bo_true hc
  obtain ⟨c, hcc, hc⟩ := bo_true hc
  obtain ⟨N, hN, hc⟩ := bo_true hc
  rw [addW_eq] at ha hcc; rw [mulW_eq] at hb
  have hlog : logF (wK (d * 2 ^ s)) = a := by
    show F .add (lt2 (Y2 (wK (d * 2 ^ s)))) (le2 (Ex (wK (d * 2 ^ s)))) = a
    rw [n1, hx]; exact F_of ha
  have hm : F .mul (logF (wK (d * 2 ^ s))) 4631308968768463603 = b := by rw [hlog]; exact F_of hb
  have hcc' : floatBits .add .f64 b Whalf = some c := hcc
  have hs : F .add (F .mul (logF (wK (d * 2 ^ s))) 4631308968768463603) Whalf = c := by rw [hm]; exact F_of hcc'
  obtain ⟨p1, p2⟩ := pOK_of hc
  refine ⟨N, ⟨?_, ?_, ?_, ?_, p1, p2⟩⟩
  · rw [hwk]; exact wk_bd hlk hK1 hK2
  · rw [hm, hlog]; exact hb
  · rw [hs, hm]; exact hcc'
  · rw [hs]; exact hN

theorem tb_prod {a b : Nat} (ha : a < 100) (hb : b < 100) : tb (2 * (a * b) + a + b) = true :=
  List.all_eq_true.1 (List.all_eq_true.1 bd_all a (List.mem_range.2 ha)) b (List.mem_range.2 hb)

/-- Every product of two odd numbers below 200, doubled. -/
theorem tk_odd {a b s : Nat} (ha : a < 100) (hb : b < 100) (hk : (2 * a + 1) * (2 * b + 1) * 2 ^ s ≤ 40000) : ∃ N, Tk ((2 * a + 1) * (2 * b + 1) * 2 ^ s) N := by
  have hab : a * b ≤ 99 * 99 := Nat.mul_le_mul (by omega) (by omega)
  have hd : (2 * a + 1) * (2 * b + 1) = 2 * (2 * (a * b) + a + b) + 1 := by
    rw [Nat.add_mul, Nat.mul_add, Nat.one_mul, Nat.mul_one, Nat.mul_mul_mul_comm]; omega
  have ht := tb_prod ha hb
  rw [hd] at hk ⊢
  obtain ⟨q, hq⟩ : ∃ q, 2 * (a * b) + a + b = q := ⟨_, rfl⟩
  rw [hq] at hk ht ⊢
  have hq2 : q < 20001 := by omega
  have hs : s < 16 := by
    have h1 : 1 * 2 ^ s ≤ (2 * q + 1) * 2 ^ s := Nat.mul_le_mul_right _ (by omega)
    have : 2 ^ s < 2 ^ 16 := by omega
    exact (Nat.pow_lt_pow_iff_right (by decide : 1 < 2)).1 this
  by_cases hq0 : q = 0
  · subst hq0
    have hx : xN 1 = W1 := by decide +kernel
    have he : eN 1 = 0 := by decide +kernel
    have hc := chkT_at 16 1 0 s chk_one hs hk
    exact tk_of (d := 1) (l := 0) (by decide) (by decide) hk (by rw [hx]; exact lt2_one) he hc
  · have hcq := chkQ_all (q := q) (by omega) hq2
    unfold chkQ at hcq
    rw [fc_eq, ht, cond_true, fc_eq] at hcq
    unfold chkD at hcq
    obtain ⟨lt, hlt, hcq⟩ := bo_true hcq
    rw [fc_eq] at hcq
    have hc := chkT_at 16 (2 * q + 1) (eN (2 * q + 1)) s hcq hs hk
    exact tk_of (by omega) rfl hk (ltO_eq hlt) rfl hc

/-- A number below 201 is an odd one below 200, doubled. -/
theorem odd_of : ∀ i, 1 ≤ i → i ≤ 200 → ∃ a s, a < 100 ∧ i = (2 * a + 1) * 2 ^ s := by
  intro i
  induction i using Nat.strongRecOn with
  | ind i ih =>
    intro h1 h2
    by_cases he : i % 2 = 1
    · exact ⟨i / 2, 0, by omega, by rw [Nat.pow_zero, Nat.mul_one]; omega⟩
    · obtain ⟨a, s, ha, hs⟩ := ih (i / 2) (by omega) (by omega) (by omega)
      refine ⟨a, s + 1, ha, ?_⟩
      rw [Nat.pow_succ, ← Nat.mul_assoc, ← hs]; omega
theorem tk_prod {i j : Nat} (h1 : 1 ≤ i) (h2 : i ≤ 200) (h3 : 1 ≤ j) (h4 : j ≤ 200) : ∃ N, Tk (i * j) N := by
  obtain ⟨a, s, ha, hs⟩ := odd_of i h1 h2
  obtain ⟨b, r, hb, hr⟩ := odd_of j h3 h4
  have hij : i * j ≤ 200 * 200 := Nat.mul_le_mul h2 h4
  have e : i * j = (2 * a + 1) * (2 * b + 1) * 2 ^ (s + r) := by rw [hs, hr, Nat.pow_add, Nat.mul_mul_mul_comm]
  rw [e] at hij ⊢
  exact tk_odd ha hb (by omega)

theorem pw_mul (a b e : Nat) : pw (a * b) e = pw a e * pw b e := Nat.mul_pow a b e
theorem pw_add (b m n : Nat) : pw b (m + n) = pw b m * pw b n := Nat.pow_add b m n
theorem pw_lt {m n : Nat} (h : pw 10 m < pw 10 n) : m < n := (Nat.pow_lt_pow_iff_right (by decide : 1 < 10)).1 h
theorem pw_pos (e : Nat) : 0 < pw 10 e := Nat.pow_pos (by decide)
theorem mm4 (X E T Y : Nat) : X * E * T * (Y * E * T) = X * Y * (T * T) * (E * E) := by ac_rfl
theorem ss4 (S A B : Nat) : S * A * (S * B) = S * (A * B) * S := by ac_rfl

/-- The tenths of a product are those of both, but for one. -/
theorem tk_sum {i j a b c : Nat} (ha : Tk (i * 8) a) (hb : Tk (j * 8) b) (hc : Tk (i * j) c) : c + 199 ≤ a + b ∧ a + b ≤ c + 201 := by
  have ku := Nat.mul_lt_mul'' ha.up hb.up
  have kl := Nat.mul_lt_mul'' ha.lo hb.lo
  have cu := hc.up
  have cl := hc.lo
  have h88 : pw 8 300 * pw 8 300 = pw 64 300 := (pw_mul 8 8 300).symm
  rw [pw_mul, pw_mul, mm4, ss4, h88, ← pw_add, ← pw_add] at ku
  rw [pw_mul, pw_mul, mm4, ss4, h88, ← pw_add, ← pw_add] at kl
  rw [pw_mul] at cu cl
  generalize pw i 300 = X at *
  generalize pw j 300 = Y at *
  generalize pw 64 300 = S at *
  have ku' := Nat.lt_of_mul_lt_mul_right ku
  have kl' := Nat.lt_of_mul_lt_mul_right kl
  have p1 : S * pw 10 (3 * c + 598) < S * pw 10 (3 * a + 2 + (3 * b + 2)) := by
    have := (Nat.mul_lt_mul_right (pw_pos 598)).2 cl
    rw [Nat.mul_assoc, ← pw_add, Nat.mul_assoc (X * Y), ← pw_add] at this
    exact Nat.lt_trans this ku'
  have p2 : S * pw 10 (3 * a + 3 * b) < S * pw 10 (3 * c + 2 + 604) := by
    have := (Nat.mul_lt_mul_right (pw_pos 604)).2 cu
    rw [Nat.mul_assoc, ← pw_add, Nat.mul_assoc S, ← pw_add] at this
    exact Nat.lt_trans kl' this
  have q1 := pw_lt (Nat.lt_of_mul_lt_mul_left p1)
  have q2 := pw_lt (Nat.lt_of_mul_lt_mul_left p2)
  omega

end Ff
