/-
  Plain mathematics: sets of bits as natural numbers; the operators of int64 on them. Conditions: none.
-/
import Derived.Laws.Entries
set_option linter.unusedVariables false
set_option linter.unusedSimpArgs false
namespace Sets
open Go

theorem ofInt_toNat (a : Nat) (ha : a < 2 ^ 62) : (BitVec.ofInt 64 (a : Int)).toNat = a := by
  rw [BitVec.ofInt_natCast, BitVec.toNat_ofNat]; exact Nat.mod_eq_of_lt (by omega)

theorem wrap_nat (a : Nat) (ha : a < 2 ^ 62) : IntKind.i64.wrap (a : Int) = a := by
  simp [IntKind.wrap, IntKind.bits, IntKind.signed]; omega

theorem bits_and (a b : Nat) (ha : a < 2 ^ 62) (hb : b < 2 ^ 62) : bits .and .i64 (a : Int) (b : Int) = ((a &&& b : Nat) : Int) := by
  show IntKind.i64.wrap ((BitVec.ofInt 64 (a : Int) &&& BitVec.ofInt 64 (b : Int)).toNat : Int) = _
  rw [BitVec.toNat_and, ofInt_toNat a ha, ofInt_toNat b hb, wrap_nat _ (Nat.lt_of_le_of_lt Nat.and_le_left ha)]

theorem bits_or (a b : Nat) (ha : a < 2 ^ 62) (hb : b < 2 ^ 62) : bits .or .i64 (a : Int) (b : Int) = ((a ||| b : Nat) : Int) := by
  show IntKind.i64.wrap ((BitVec.ofInt 64 (a : Int) ||| BitVec.ofInt 64 (b : Int)).toNat : Int) = _
  rw [BitVec.toNat_or, ofInt_toNat a ha, ofInt_toNat b hb, wrap_nat _ (Nat.or_lt_two_pow ha hb)]

theorem bits_andNot (a b : Nat) (ha : a < 2 ^ 62) (hb : b < 2 ^ 62) : bits .andNot .i64 (a : Int) (b : Int) = ((a &&& (2 ^ 64 - 1 - b) : Nat) : Int) := by
  show IntKind.i64.wrap ((BitVec.ofInt 64 (a : Int) &&& ~~~BitVec.ofInt 64 (b : Int)).toNat : Int) = _
  rw [BitVec.toNat_and, BitVec.toNat_not, ofInt_toNat a ha, ofInt_toNat b hb, wrap_nat _ (Nat.lt_of_le_of_lt Nat.and_le_left ha)]

/-- The set has i. -/
def has (s i : Nat) : Bool := s.testBit i
def bit (s i : Nat) : Int := if has s i then 1 else 0

theorem and_one (s i : Nat) (hs : s < 2 ^ 62) : bits .and .i64 ((s : Int) / ((2 ^ i : Nat) : Int)) 1 = bit s i := by
  rw [← Int.natCast_ediv]
  have h := bits_and (s / 2 ^ i) 1 (Nat.lt_of_le_of_lt (Nat.div_le_self _ _) hs) (by decide)
  have e : ((1 : Nat) : Int) = 1 := rfl
  rw [e] at h
  rw [h, Nat.and_one_is_mod]
  unfold bit has
  rw [Nat.testBit_eq_decide_div_mod_eq]
  by_cases h : s / 2 ^ i % 2 = 1
  · simp [h]
  · have : s / 2 ^ i % 2 = 0 := by omega
    simp [this]

/-- A bit more. -/
theorem or_disj {a b : Nat} (ha : a < 2 ^ 62) (hb : b < 2 ^ 62) (h : a &&& b = 0) : a ||| b = a + b := by
  have h1 := BitVec.add_eq_or_of_and_eq_zero (BitVec.ofNat 64 a) (BitVec.ofNat 64 b) (by
    apply BitVec.eq_of_toNat_eq
    simp only [BitVec.toNat_and, BitVec.toNat_ofNat]
    rw [Nat.mod_eq_of_lt (by omega), Nat.mod_eq_of_lt (by omega), h])
  have h2 := congrArg BitVec.toNat h1
  simp only [BitVec.toNat_or, BitVec.toNat_add, BitVec.toNat_ofNat] at h2
  rw [Nat.mod_eq_of_lt (a := a) (by omega), Nat.mod_eq_of_lt (a := b) (by omega), Nat.mod_eq_of_lt (a := a + b) (by omega)] at h2
  exact h2.symm

theorem and_two_pow (s i : Nat) : s &&& 2 ^ i = if has s i then 2 ^ i else 0 := by
  apply Nat.eq_of_testBit_eq
  intro j
  rw [Nat.testBit_and, Nat.testBit_two_pow]
  unfold has
  by_cases h : i = j
  · subst h
    by_cases hs : s.testBit i = true
    · simp [hs]
    · simp [hs]
  · by_cases hs : s.testBit i = true
    · simp [hs, h]
    · simp [hs, h]

theorem pow_lt {i : Nat} (hi : i < 62) : 2 ^ i < 2 ^ 62 := Nat.pow_lt_pow_right (by decide) hi

theorem or_bit (s i : Nat) (hs : s < 2 ^ 62) (hi : i < 62) (h : has s i = false) : s ||| 2 ^ i = s + 2 ^ i :=
  or_disj hs (pow_lt hi) (by rw [and_two_pow, h]; rfl)

theorem has_le {s i : Nat} (h : has s i = true) : 2 ^ i ≤ s := by
  have := and_two_pow s i
  rw [h, if_pos rfl] at this
  rw [← this]; exact Nat.and_le_left

theorem andNot_bit (s i : Nat) (hs : s < 2 ^ 62) (hi : i < 62) (h : has s i = true) : s &&& (2 ^ 64 - 1 - 2 ^ i) = s - 2 ^ i := by
  have hp := pow_lt hi
  have e : s = (s &&& (2 ^ 64 - 1 - 2 ^ i)) ||| 2 ^ i := by
    apply Nat.eq_of_testBit_eq
    intro j
    rw [Nat.testBit_or, Nat.testBit_and, Nat.testBit_two_pow, Nat.sub_sub, Nat.add_comm 1, Nat.testBit_two_pow_sub_succ (by omega), Nat.testBit_two_pow]
    by_cases hj : i = j
    · subst hj; simpa [has] using h
    · by_cases hl : j < 64
      · simp [hj, hl]
      · have : s.testBit j = false := Nat.testBit_lt_two_pow (Nat.lt_of_lt_of_le hs (Nat.pow_le_pow_right (by decide) (by omega)))
        simp [this, hj]
  have hd : (s &&& (2 ^ 64 - 1 - 2 ^ i)) &&& 2 ^ i = 0 := by
    rw [and_two_pow]
    unfold has
    rw [Nat.testBit_and, Nat.sub_sub, Nat.add_comm 1, Nat.testBit_two_pow_sub_succ (by omega), Nat.testBit_two_pow]
    simp
  have := or_disj (Nat.lt_of_le_of_lt Nat.and_le_left hs) hp hd
  omega

theorem andNot_no (s i : Nat) (hs : s < 2 ^ 62) (hi : i < 62) (h : has s i = false) : s &&& (2 ^ 64 - 1 - 2 ^ i) = s := by
  have hp := pow_lt hi
  apply Nat.eq_of_testBit_eq
  intro j
  rw [Nat.testBit_and, Nat.sub_sub, Nat.add_comm 1, Nat.testBit_two_pow_sub_succ (by omega), Nat.testBit_two_pow]
  by_cases hj : i = j
  · subst hj
    have : s.testBit i = false := h
    simp [this]
  · by_cases hl : j < 64
    · simp [hj, hl]
    · have : s.testBit j = false := Nat.testBit_lt_two_pow (Nat.lt_of_lt_of_le hs (Nat.pow_le_pow_right (by decide) (by omega)))
      simp [this]

/-- The other set: what is not in s. -/
theorem has_compl {n s i : Nat} (hs : s < 2 ^ n) (hi : i < n) : has (2 ^ n - 1 - s) i = !has s i := by
  unfold has
  rw [Nat.sub_sub, Nat.add_comm 1, Nat.testBit_two_pow_sub_succ hs]
  simp [hi]

theorem has_lt {n s i : Nat} (hs : s < 2 ^ n) (h : has s i = true) : i < n := by
  by_cases hi : i < n
  · exact hi
  · have : s.testBit i = false := Nat.testBit_lt_two_pow (Nat.lt_of_lt_of_le hs (Nat.pow_le_pow_right (by decide) (by omega)))
    unfold has at h
    rw [this] at h; cases h

theorem has_add {s i : Nat} (hs : s < 2 ^ 62) (hi : i < 62) (h : has s i = false) (j : Nat) : has (s + 2 ^ i) j = (has s j || decide (i = j)) := by
  rw [← or_bit s i hs hi h]
  unfold has
  rw [Nat.testBit_or, Nat.testBit_two_pow]

theorem has_sub {s i : Nat} (hs : s < 2 ^ 62) (hi : i < 62) (h : has s i = true) (j : Nat) : has (s - 2 ^ i) j = (has s j && !decide (i = j)) := by
  rw [← andNot_bit s i hs hi h]
  unfold has
  rw [Nat.testBit_and, Nat.sub_sub, Nat.add_comm 1, Nat.testBit_two_pow_sub_succ (by have := pow_lt hi; omega), Nat.testBit_two_pow]
  by_cases hl : j < 64
  · simp [hl]
  · have : s.testBit j = false := Nat.testBit_lt_two_pow (Nat.lt_of_lt_of_le hs (Nat.pow_le_pow_right (by decide) (by omega)))
    simp [this]

/-- A set that is not empty has something. -/
theorem has_some {n s : Nat} (hs : s < 2 ^ n) (h : s ≠ 0) : ∃ i, i < n ∧ has s i = true := by
  obtain ⟨i, hi⟩ := Nat.exists_testBit_of_ne_zero h
  exact ⟨i, has_lt hs hi, hi⟩
/-- The numbers of a search over sets: n things, what the i-th costs where it ends at a time, how long it takes, how two costs are put together. -/
structure Srch where
  n : Nat
  c : Nat → Int → Int
  tm : Nat → Int
  B : Int → Int → Int

namespace Srch
variable (S : Srch)

def all : Nat := 2 ^ S.n - 1

/-- The times of those of the first k that are in s. -/
def sumK (s : Nat) : Nat → Int
  | 0 => 0
  | k + 1 => if has s k then sumK s k + S.tm k else sumK s k

def total : Nat → Int
  | 0 => 0
  | k + 1 => total k + S.tm k

theorem sumK_compl {s : Nat} (hs : s < 2 ^ S.n) : ∀ k, k ≤ S.n → S.sumK (2 ^ S.n - 1 - s) k = S.total k - S.sumK s k
  | 0, _ => by simp [sumK, total]
  | k + 1, h => by
    have ih := sumK_compl hs k (by omega)
    simp only [sumK, total, has_compl hs (show k < S.n by omega), ih]
    cases has s k <;> simp <;> omega

/-- What the others cost at least if the i-th of them comes first; 'now' is the time, 'r' the table. -/
def cand (r : Nat → Int) (now : Int) (s i : Nat) : Int :=
  if s - 2 ^ i = 0 then S.c i (now + S.tm i) else S.B (S.c i (now + S.tm i)) (r (s - 2 ^ i))

/-- The least one of the first k. -/
def foldK (r : Nat → Int) (now : Int) (s : Nat) : Nat → Option Int
  | 0 => none
  | k + 1 => if has s k then (match foldK r now s k with
      | none => some (cand S r now s k)
      | some v => if cand S r now s k < v then some (cand S r now s k) else some v) else foldK r now s k

theorem foldK_congr {r r' : Nat → Int} {s : Nat} (now : Int) (h : ∀ l, l < s → r l = r' l) : ∀ k, S.foldK r now s k = S.foldK r' now s k
  | 0 => rfl
  | k + 1 => by
    simp only [foldK, foldK_congr now h k]
    cases hk : has s k with
    | false => rfl
    | true =>
      have hp : 0 < 2 ^ k := Nat.pow_pos (by decide)
      have hl := has_le hk
      have e : S.cand r now s k = S.cand r' now s k := by
        unfold cand
        rw [h _ (by omega)]
      rw [e]

/-- The time when those are done that are not in s. -/
def now (s : Nat) : Int := S.total S.n - S.sumK s S.n

/-- The table up to l. -/
def tab : Nat → List Int
  | 0 => [0]
  | l + 1 => tab l ++ [(S.foldK (fun i => (tab l).getD i 0) (S.now (l + 1)) (l + 1) S.n).getD 0]

theorem tab_len : ∀ l, (S.tab l).length = l + 1
  | 0 => rfl
  | l + 1 => by simp [tab, tab_len l]

/-- What a set costs at least. -/
def R (l : Nat) : Int := (S.tab l).getD l 0

theorem tab_get (k : Nat) : ∀ l, (S.tab (k + l)).getD k 0 = S.R k
  | 0 => rfl
  | l + 1 => by
    have h := tab_get k l
    rw [← Nat.add_assoc]
    simp only [tab]
    rw [List.getD_eq_getElem?_getD, List.getElem?_append_left (by rw [tab_len]; omega), ← List.getD_eq_getElem?_getD, h]

theorem R_zero : S.R 0 = 0 := rfl
theorem R_eq (l : Nat) (h : l ≠ 0) : S.R l = (S.foldK S.R (S.now l) l S.n).getD 0 := by
  obtain ⟨k, rfl⟩ : ∃ k, l = k + 1 := ⟨l - 1, by omega⟩
  unfold R
  simp only [tab]
  rw [List.getD_eq_getElem?_getD, List.getElem?_append_right (by rw [tab_len]; omega), tab_len, Nat.sub_self]
  simp only [List.getElem?_cons_zero, Option.getD_some]
  congr 1
  refine S.foldK_congr _ (fun j hj => ?_) S.n
  have := S.tab_get j (k - j)
  rw [show j + (k - j) = k by omega] at this
  exact this

theorem fold_some {r : Nat → Int} {t : Int} {s : Nat} : ∀ k, (∃ i, i < k ∧ has s i = true) → ∃ i, i < k ∧ has s i = true ∧ S.foldK r t s k = some (S.cand r t s i)
  | 0, h => by obtain ⟨i, hi, _⟩ := h; omega
  | k + 1, h => by
    simp only [foldK]
    cases hk : has s k with
    | false =>
      obtain ⟨i, hi, h2⟩ := h
      have : i ≠ k := by rintro rfl; rw [hk] at h2; cases h2
      obtain ⟨j, hj, h3, h4⟩ := fold_some k ⟨i, by omega, h2⟩
      exact ⟨j, by omega, h3, by simpa using h4⟩
    | true =>
      cases hf : S.foldK r t s k with
      | none => exact ⟨k, by omega, hk, rfl⟩
      | some v =>
        by_cases hex : ∃ i, i < k ∧ has s i = true
        · obtain ⟨j, hj, h3, h4⟩ := fold_some (r := r) (t := t) k hex
          rw [hf] at h4
          by_cases hlt : S.cand r t s k < v
          · exact ⟨k, by omega, hk, by simp [hlt]⟩
          · exact ⟨j, by omega, h3, by rw [← h4]; simp [hlt]⟩
        · exfalso
          have : ∀ m, m ≤ k → S.foldK r t s m = none := by
            intro m
            induction m with
            | zero => intro _; rfl
            | succ m ih =>
              intro hm
              have hn : has s m = false := by
                cases h5 : has s m with
                | false => rfl
                | true => exact absurd ⟨m, by omega, h5⟩ hex
              simp only [foldK, hn]
              exact ih (by omega)
          rw [this k (Nat.le_refl k)] at hf
          cases hf

theorem R_has {s : Nat} (hs : s < 2 ^ S.n) (h : s ≠ 0) : ∃ i, i < S.n ∧ has s i = true ∧ S.R s = S.cand S.R (S.now s) s i := by
  obtain ⟨i, h1, h2, h3⟩ := S.fold_some (r := S.R) (t := S.now s) S.n (has_some hs h)
  exact ⟨i, h1, h2, by rw [S.R_eq s h, h3]; rfl⟩

/-- A state of the second part: the order so far, what is left, the time, the cost. -/
structure St where
  out : List Int
  left : Nat
  now : Int
  cost : Int

def next (x : St) (i : Nat) : Int := if x.out = [] then S.c i (x.now + S.tm i) else S.B x.cost (S.c i (x.now + S.tm i))
def whole (x : St) (i : Nat) : Int := if x.left - 2 ^ i = 0 then S.next x i else S.B (S.next x i) (S.R (x.left - 2 ^ i))
def good (x : St) (i : Nat) : Bool := has x.left i && decide (S.whole x i = S.R S.all)
def push (x : St) (i : Nat) : St := ⟨x.out ++ [(i : Int)], x.left - 2 ^ i, x.now + S.tm i, S.next x i⟩
/-- The first good one, from k on. -/
def pick (x : St) : Nat → Nat → Nat
  | 0, k => k
  | f + 1, k => if S.good x k then k else pick x f (k + 1)
def st : Nat → St
  | 0 => ⟨[], S.all, 0, 0⟩
  | s + 1 => S.push (st s) (S.pick (st s) S.n 0)

theorem pick_eq (x : St) : ∀ f k i, k ≤ i → i < k + f → S.good x i = true → (∀ j, k ≤ j → j < i → S.good x j = false) → S.pick x f k = i
  | 0, k, i, h1, h2, _, _ => by omega
  | f + 1, k, i, h1, h2, h3, h4 => by
    unfold pick
    by_cases hk : k = i
    · subst hk; rw [if_pos h3]
    · rw [if_neg (by rw [h4 k (Nat.le_refl k) (by omega)]; decide)]
      exact pick_eq x f (k + 1) i (by omega) (by omega) h3 (fun j hj hji => h4 j (by omega) hji)

/-- How many are in s, of the first k. -/
def count (s : Nat) : Nat → Nat
  | 0 => 0
  | k + 1 => if has s k then count s k + 1 else count s k

theorem count_le (s : Nat) : ∀ k, count s k ≤ k
  | 0 => Nat.le_refl _
  | k + 1 => by have := count_le s k; simp only [count]; split <;> omega

theorem count_pos {s : Nat} : ∀ k, (∃ i, i < k ∧ has s i = true) → 0 < count s k
  | 0, h => by obtain ⟨i, h, _⟩ := h; omega
  | k + 1, h => by
    simp only [count]
    split
    · omega
    · rename_i hk
      obtain ⟨i, hi, h2⟩ := h
      have : i ≠ k := by rintro rfl; exact hk h2
      exact count_pos k ⟨i, by omega, h2⟩

theorem count_sub {s i : Nat} (hs : s < 2 ^ 62) (hi : i < 62) (h : has s i = true) : ∀ k, count (s - 2 ^ i) k = if i < k then count s k - 1 else count s k
  | 0 => rfl
  | k + 1 => by
    simp only [count, has_sub hs hi h, count_sub hs hi h k]
    by_cases hik : i = k
    · subst hik
      simp [h]
    · by_cases hlt : i < k
      · have a1 : i < k + 1 := by omega
        have hpos : 0 < count s k := count_pos k ⟨i, hlt, h⟩
        simp only [hlt, a1, if_true, hik, decide_false, Bool.not_false, Bool.and_true]
        cases has s k <;> simp <;> omega
      · have a1 : ¬ i < k + 1 := by omega
        simp only [hlt, a1, if_false, hik, decide_false, Bool.not_false, Bool.and_true]

theorem count_zero (k : Nat) : count 0 k = 0 := by
  induction k with
  | zero => rfl
  | succ k ih => simp [count, has, ih]

theorem count_all : ∀ k, k ≤ S.n → count S.all k = k
  | 0, _ => rfl
  | k + 1, h => by
    have h1 := has_compl (n := S.n) (s := 0) (i := k) (Nat.pow_pos (by decide)) (by omega)
    have h2 : has S.all k = true := by simpa [all, has] using h1
    simp only [count, h2, count_all k (by omega)]
    rfl

theorem sumK_sub {s i : Nat} (hs : s < 2 ^ 62) (hi : i < 62) (h : has s i = true) : ∀ k, S.sumK (s - 2 ^ i) k = if i < k then S.sumK s k - S.tm i else S.sumK s k
  | 0 => by simp [sumK]
  | k + 1 => by
    simp only [sumK, has_sub hs hi h, sumK_sub hs hi h k]
    by_cases hik : i = k
    · subst hik
      simp [h]
    · by_cases hlt : i < k
      · have a1 : i < k + 1 := by omega
        simp only [hlt, a1, if_true, hik, decide_false, Bool.not_false, Bool.and_true]
        cases has s k <;> simp <;> omega
      · have a1 : ¬ i < k + 1 := by omega
        simp only [hlt, a1, if_false, hik, decide_false, Bool.not_false, Bool.and_true]

theorem sumK_all : ∀ k, k ≤ S.n → S.sumK S.all k = S.total k := by
  intro k hk
  have h := S.sumK_compl (s := 0) (Nat.pow_pos (by decide)) k hk
  have h0 : ∀ k, S.sumK 0 k = 0 := by
    intro k
    induction k with
    | zero => rfl
    | succ k ih => simp [sumK, has, ih]
  rw [h0] at h
  unfold all
  rw [Nat.sub_zero] at h
  omega

/-- What holds of each state. -/
structure Ok (x : St) (s : Nat) : Prop where
  len : x.out.length = s
  lt : x.left < 2 ^ S.n
  cnt : count x.left S.n = S.n - s
  now : x.now = S.now x.left
  inv : x.left ≠ 0 → (if x.out = [] then S.R x.left else S.B x.cost (S.R x.left)) = S.R S.all

theorem ok_zero : S.Ok (S.st 0) 0 := by
  refine ⟨rfl, ?_, ?_, ?_, fun _ => rfl⟩
  · show S.all < _; unfold all; have : 0 < 2 ^ S.n := Nat.pow_pos (by decide); omega
  · exact S.count_all S.n (Nat.le_refl _)
  · show 0 = S.total S.n - S.sumK S.all S.n
    rw [S.sumK_all S.n (Nat.le_refl _)]; omega

variable {S}

theorem Ok.good (hB : ∀ a b c, S.B (S.B a b) c = S.B a (S.B b c)) {x : St} {s : Nat} (h : S.Ok x s) (hs : s < S.n) : ∃ i, i < S.n ∧ S.good x i = true := by
  have hne : x.left ≠ 0 := by
    intro h0
    have := h.cnt
    rw [h0, count_zero] at this; omega
  obtain ⟨i, h1, h2, h3⟩ := S.R_has h.lt hne
  refine ⟨i, h1, ?_⟩
  unfold Srch.good
  rw [h2, Bool.true_and, decide_eq_true_eq, ← h.inv hne, h3]
  unfold whole Srch.next cand
  rw [← h.now]
  by_cases he : x.out = []
  · simp only [he, if_true]
  · simp only [he, if_false]
    split
    · rfl
    · rw [hB]

theorem Ok.push (hn : S.n ≤ 60) {x : St} {s i : Nat} (h : S.Ok x s) (hg : S.good x i = true) (hi : i < S.n) : S.Ok (S.push x i) (s + 1) := by
  unfold Srch.good at hg
  rw [Bool.and_eq_true, decide_eq_true_eq] at hg
  obtain ⟨h1, h2⟩ := hg
  have hl : x.left < 2 ^ 62 := Nat.lt_of_lt_of_le h.lt (Nat.pow_le_pow_right (by decide) (by omega))
  refine ⟨by simp [Srch.push, h.len], ?_, ?_, ?_, fun h0 => ?_⟩
  · exact Nat.lt_of_le_of_lt (Nat.sub_le _ _) h.lt
  · show count (x.left - 2 ^ i) S.n = _
    rw [count_sub hl (by omega) h1, if_pos hi, h.cnt]; omega
  · show x.now + S.tm i = S.total S.n - S.sumK (x.left - 2 ^ i) S.n
    rw [S.sumK_sub hl (by omega) h1, if_pos hi, h.now]; unfold Srch.now; omega
  · have h0' : ¬ x.left - 2 ^ i = 0 := h0
    show (if x.out ++ [(i : Int)] = [] then _ else S.B (S.next x i) (S.R (x.left - 2 ^ i))) = _
    rw [if_neg (by simp)]
    unfold whole at h2
    rw [if_neg h0'] at h2
    exact h2

theorem ok_st (hn : S.n ≤ 60) (hB : ∀ a b c, S.B (S.B a b) c = S.B a (S.B b c)) : ∀ s, s ≤ S.n → S.Ok (S.st s) s
  | 0, _ => S.ok_zero
  | s + 1, h => by
    have ih := ok_st hn hB s (by omega)
    obtain ⟨i, hi, hg⟩ := ih.good hB (by omega)
    -- the first good one
    have key : ∀ m, m ≤ S.n → (∃ j, j < m ∧ S.good (S.st s) j = true) → ∃ j, j < m ∧ S.good (S.st s) j = true ∧ ∀ l, l < j → S.good (S.st s) l = false := by
      intro m
      induction m with
      | zero => intro _ ⟨j, hj, _⟩; omega
      | succ m ihm =>
        intro hm ⟨j, hj, hgj⟩
        by_cases hex : ∃ j, j < m ∧ S.good (S.st s) j = true
        · obtain ⟨l, a, b, c⟩ := ihm (by omega) hex
          exact ⟨l, by omega, b, c⟩
        · have e : j = m := by
            by_cases e : j = m
            · exact e
            · exact absurd ⟨j, by omega, hgj⟩ hex
          subst e
          refine ⟨j, by omega, hgj, fun l hl => ?_⟩
          cases hb : S.good (S.st s) l with
          | false => rfl
          | true => exact absurd ⟨l, hl, hb⟩ hex
    obtain ⟨j, hj, hgj, hfirst⟩ := key S.n (Nat.le_refl _) ⟨i, hi, hg⟩
    have hp : S.pick (S.st s) S.n 0 = j := S.pick_eq (S.st s) S.n 0 j (by omega) (by omega) hgj (fun l _ hl => hfirst l hl)
    show S.Ok (S.push (S.st s) (S.pick (S.st s) S.n 0)) (s + 1)
    rw [hp]
    exact ih.push hn hgj hj

end Srch
/-- The numbers of a search for the cheapest round: n things, what it costs to come to i from l; 'w i i' where i is the first one. -/
structure Chg where
  n : Nat
  w : Nat → Nat → Int

namespace Chg
variable (S : Chg)

def all : Nat := 2 ^ S.n - 1

/-- What it costs to go from l to i and on, by the table r. -/
def cand (r : Nat → Nat → Int) (s l i : Nat) : Int := S.w l i + r (s - 2 ^ i) i

/-- The least one of the first k; -1 if there is none. -/
def foldK (r : Nat → Nat → Int) (s l : Nat) : Nat → Int
  | 0 => -1
  | k + 1 => if has s k then (if foldK r s l k < 0 ∨ cand S r s l k < foldK r s l k then cand S r s l k else foldK r s l k) else foldK r s l k

theorem foldK_congr {r r' : Nat → Nat → Int} {s : Nat} (l : Nat) (h : ∀ x i, x < s → r x i = r' x i) : ∀ k, S.foldK r s l k = S.foldK r' s l k
  | 0 => rfl
  | k + 1 => by
    simp only [foldK, foldK_congr l h k]
    cases hk : has s k with
    | false => rfl
    | true =>
      have hp : 0 < 2 ^ k := Nat.pow_pos (by decide)
      have hl := has_le hk
      have e : S.cand r s l k = S.cand r' s l k := by
        unfold cand
        rw [h _ _ (by omega)]
      rw [e]

/-- The table up to x. -/
def tab : Nat → List (Nat → Int)
  | 0 => [fun _ => 0]
  | x + 1 => tab x ++ [fun l => S.foldK (fun y i => (tab x).getD y (fun _ => 0) i) (x + 1) l S.n]

theorem tab_len : ∀ l, (S.tab l).length = l + 1
  | 0 => rfl
  | l + 1 => by simp [tab, tab_len l]

def R (x l : Nat) : Int := (S.tab x).getD x (fun _ => 0) l

theorem tab_get (k : Nat) : ∀ l, (S.tab (k + l)).getD k (fun _ => 0) = S.R k
  | 0 => rfl
  | l + 1 => by
    have h := tab_get k l
    rw [← Nat.add_assoc]
    simp only [tab]
    rw [List.getD_eq_getElem?_getD, List.getElem?_append_left (by rw [tab_len]; omega), ← List.getD_eq_getElem?_getD, h]

theorem R_zero (l : Nat) : S.R 0 l = 0 := rfl
theorem R_eq (x l : Nat) (h : x ≠ 0) : S.R x l = S.foldK S.R x l S.n := by
  obtain ⟨k, rfl⟩ : ∃ k, x = k + 1 := ⟨x - 1, by omega⟩
  unfold R
  simp only [tab]
  rw [List.getD_eq_getElem?_getD, List.getElem?_append_right (by rw [tab_len]; omega), tab_len, Nat.sub_self]
  simp only [List.getElem?_cons_zero, Option.getD_some]
  refine S.foldK_congr _ (fun j i hj => ?_) S.n
  have := S.tab_get j (k - j)
  rw [show j + (k - j) = k by omega] at this
  rw [this]; rfl

theorem fold_some {r : Nat → Nat → Int} {s l : Nat} : ∀ k, (∀ i, i < k → has s i = true → 0 ≤ S.cand r s l i) →
    ((S.foldK r s l k = -1 ∧ ∀ i, i < k → has s i = false) ∨ ∃ i, i < k ∧ has s i = true ∧ S.foldK r s l k = S.cand r s l i)
  | 0, _ => .inl ⟨rfl, fun i hi => by omega⟩
  | k + 1, h => by
    simp only [foldK]
    cases hk : has s k with
    | false =>
      rcases fold_some k (fun i hi => h i (by omega)) with ⟨a, b⟩ | ⟨i, a, b, c⟩
      · refine .inl ⟨by simpa using a, fun i hi => ?_⟩
        by_cases e : i = k
        · subst e; exact hk
        · exact b i (by omega)
      · exact .inr ⟨i, by omega, b, by simpa using c⟩
    | true =>
      right
      by_cases hc : S.foldK r s l k < 0 ∨ S.cand r s l k < S.foldK r s l k
      · exact ⟨k, by omega, hk, by simp only [if_pos hc, if_true]⟩
      · rcases fold_some k (fun i hi => h i (by omega)) with ⟨a, b⟩ | ⟨i, a, b, c⟩
        · exact absurd (.inl (by omega)) hc
        · exact ⟨i, by omega, b, by simp only [if_neg hc, if_true]; exact c⟩

variable {S} (hw : ∀ l i, l < S.n → i < S.n → 0 ≤ S.w l i ∧ S.w l i ≤ 10000)
include hw

theorem R_bd : ∀ x, x < 2 ^ S.n → ∀ l, l < S.n → 0 ≤ S.R x l ∧ S.R x l ≤ 10000 * x := by
  intro x
  induction x using Nat.strongRecOn with
  | ind x ih =>
    intro hx l hl
    by_cases h0 : x = 0
    · subst h0; rw [R_zero]; omega
    · rw [S.R_eq x l h0]
      have hc : ∀ i, i < S.n → has x i = true → 0 ≤ S.cand S.R x l i ∧ S.cand S.R x l i ≤ 10000 * x := by
        intro i hi hh
        have hle := has_le hh
        have hp : 0 < 2 ^ i := Nat.pow_pos (by decide)
        have h1 := ih (x - 2 ^ i) (by omega) (by omega) i hi
        have h2 := hw l i hl hi
        unfold cand
        omega
      rcases S.fold_some (r := S.R) (s := x) (l := l) S.n (fun i hi hh => (hc i hi hh).1) with ⟨a, b⟩ | ⟨i, a, b, c⟩
      · obtain ⟨i, hi, h2⟩ := has_some hx h0
        rw [b i hi] at h2; cases h2
      · rw [c]; exact hc i a b

theorem cand_bd {x l i : Nat} (hx : x < 2 ^ S.n) (hl : l < S.n) (hi : i < S.n) : 0 ≤ S.cand S.R x l i ∧ S.cand S.R x l i ≤ 10000 + 10000 * x := by
  have hp : 0 < 2 ^ i := Nat.pow_pos (by decide)
  have h1 := R_bd hw (x - 2 ^ i) (by omega) i hi
  have h2 := hw l i hl hi
  unfold cand
  omega

theorem foldK_bd {x l : Nat} (hx : x < 2 ^ S.n) (hl : l < S.n) (k : Nat) (hk : k ≤ S.n) : -1 ≤ S.foldK S.R x l k ∧ S.foldK S.R x l k ≤ 10000 + 10000 * x := by
  rcases S.fold_some (r := S.R) (s := x) (l := l) k (fun i hi _ => (cand_bd hw hx hl (by omega)).1) with ⟨a, b⟩ | ⟨i, a, b, c⟩
  · omega
  · have := cand_bd hw hx hl (i := i) (by omega); omega

theorem R_has {x l : Nat} (hx : x < 2 ^ S.n) (hl : l < S.n) (h : x ≠ 0) : ∃ i, i < S.n ∧ has x i = true ∧ S.R x l = S.cand S.R x l i := by
  rcases S.fold_some (r := S.R) (s := x) (l := l) S.n (fun i hi _ => (cand_bd hw hx hl hi).1) with ⟨a, b⟩ | ⟨i, a, b, c⟩
  · obtain ⟨i, hi, h2⟩ := has_some hx h
    rw [b i hi] at h2; cases h2
  · exact ⟨i, a, b, by rw [S.R_eq x l h]; exact c⟩
omit hw
variable (S)

/-- The first of the first k: what the whole costs at least. -/
def firstK : Nat → Int
  | 0 => -1
  | k + 1 => if firstK k < 0 ∨ cand S S.R S.all k k < firstK k then cand S S.R S.all k k else firstK k

/-- A state: the order so far, what is left, what is to be paid. -/
structure St where
  out : List Int
  left : Nat
  rem : Int

def toll (x : St) (i : Nat) : Int := if x.out = [] then S.w i i else S.w (x.out.getD (x.out.length - 1) 0).toNat i
def good (x : St) (i : Nat) : Bool := has x.left i && decide (S.toll x i + S.R (x.left - 2 ^ i) i = x.rem)
def push (x : St) (i : Nat) : St := ⟨x.out ++ [(i : Int)], x.left - 2 ^ i, x.rem - S.toll x i⟩
def pick (x : St) : Nat → Nat → Nat
  | 0, k => k
  | f + 1, k => if S.good x k then k else pick x f (k + 1)
def st : Nat → St
  | 0 => ⟨[], S.all, S.firstK S.n⟩
  | s + 1 => S.push (st s) (S.pick (st s) S.n 0)

theorem pick_eq (x : St) : ∀ f k i, k ≤ i → i < k + f → S.good x i = true → (∀ j, k ≤ j → j < i → S.good x j = false) → S.pick x f k = i
  | 0, k, i, h1, h2, _, _ => by omega
  | f + 1, k, i, h1, h2, h3, h4 => by
    unfold pick
    by_cases hk : k = i
    · subst hk; rw [if_pos h3]
    · rw [if_neg (by rw [h4 k (Nat.le_refl k) (by omega)]; decide)]
      exact pick_eq x f (k + 1) i (by omega) (by omega) h3 (fun j hj hji => h4 j (by omega) hji)

structure Ok (x : St) (s : Nat) : Prop where
  len : x.out.length = s
  mem : ∀ j, j < s → 0 ≤ x.out.getD j 0 ∧ x.out.getD j 0 < S.n
  lt : x.left < 2 ^ S.n
  cnt : Srch.count x.left S.n = S.n - s
  ini : x.out = [] → x.left = S.all
  inv : (if x.out = [] then S.firstK S.n else S.R x.left (x.out.getD (x.out.length - 1) 0).toNat) = x.rem

theorem all_lt : S.all < 2 ^ S.n := by unfold all; have : 0 < 2 ^ S.n := Nat.pow_pos (by decide); omega
theorem all_has {i : Nat} (hi : i < S.n) : has S.all i = true := by
  have h1 := has_compl (n := S.n) (s := 0) (i := i) (Nat.pow_pos (by decide)) hi
  simpa [all, has] using h1

theorem ok_zero : S.Ok (S.st 0) 0 := by
  refine ⟨rfl, fun j hj => by omega, S.all_lt, ?_, fun _ => rfl, rfl⟩
  exact Srch.count_all ⟨S.n, fun _ _ => 0, fun _ => 0, fun _ _ => 0⟩ S.n (Nat.le_refl _)

variable {S}
include hw

theorem first_has : ∀ k, k ≤ S.n → 0 < k → ∃ i, i < k ∧ S.firstK k = S.cand S.R S.all i i
  | 0, _, h => by omega
  | k + 1, hk, _ => by
    simp only [firstK]
    by_cases h0 : k = 0
    · subst h0; exact ⟨0, by omega, by simp [firstK]⟩
    · obtain ⟨i, h1, h2⟩ := first_has k (by omega) (by omega)
      have h3 := cand_bd hw S.all_lt (l := i) (i := i) (by omega) (by omega)
      by_cases hc : S.firstK k < 0 ∨ S.cand S.R S.all k k < S.firstK k
      · exact ⟨k, by omega, by rw [if_pos hc]⟩
      · exact ⟨i, by omega, by rw [if_neg hc]; exact h2⟩

theorem first_bd (k : Nat) (hk : k ≤ S.n) : -1 ≤ S.firstK k ∧ S.firstK k ≤ 10000 + 10000 * S.all := by
  by_cases h0 : k = 0
  · subst h0; simp [firstK]; omega
  · obtain ⟨i, h1, h2⟩ := first_has hw k hk (by omega)
    have h3 := cand_bd hw S.all_lt (l := i) (i := i) (by omega) (by omega)
    omega

theorem Ok.good {x : St} {s : Nat} (h : S.Ok x s) (hs : s < S.n) : ∃ i, i < S.n ∧ S.good x i = true := by
  have hne : x.left ≠ 0 := by
    intro h0
    have := h.cnt
    rw [h0, Srch.count_zero] at this; omega
  by_cases he : x.out = []
  · obtain ⟨i, h1, h2⟩ := first_has hw S.n (Nat.le_refl _) (by omega)
    refine ⟨i, h1, ?_⟩
    unfold Chg.good toll
    have h3 := h.inv
    rw [if_pos he] at h3
    rw [h.ini he, S.all_has h1, if_pos he, Bool.true_and, decide_eq_true_eq, ← h3, h2]
    rfl
  · have h5 := h.inv
    rw [if_neg he] at h5
    have hl : 0 < s := by
      have := h.len
      cases hx : x.out with
      | nil => exact absurd hx he
      | cons a b => rw [hx] at this; simp at this; omega
    have h6 := h.mem (s - 1) (by omega)
    rw [h.len] at h5
    obtain ⟨i, h1, h2, h3⟩ := R_has hw h.lt (l := (x.out.getD (s - 1) 0).toNat) (by omega) hne
    refine ⟨i, h1, ?_⟩
    unfold Chg.good toll
    rw [if_neg he, h2, Bool.true_and, decide_eq_true_eq, ← h5, h3, h.len]
    rfl
omit hw

theorem Ok.push (hn : S.n ≤ 60) {x : St} {s i : Nat} (h : S.Ok x s) (hg : S.good x i = true) (hi : i < S.n) : S.Ok (S.push x i) (s + 1) := by
  unfold Chg.good at hg
  rw [Bool.and_eq_true, decide_eq_true_eq] at hg
  obtain ⟨h1, h2⟩ := hg
  have hl : x.left < 2 ^ 62 := Nat.lt_of_lt_of_le h.lt (Nat.pow_le_pow_right (by decide) (by omega))
  have hlast : (x.out ++ [(i : Int)]).getD (x.out ++ [(i : Int)]).length.pred 0 = i := by simp
  refine ⟨by simp [Chg.push, h.len], fun j hj => ?_, ?_, ?_, fun h0 => ?_, ?_⟩
  · show 0 ≤ (x.out ++ [(i : Int)]).getD j 0 ∧ (x.out ++ [(i : Int)]).getD j 0 < S.n
    rw [List.getD_eq_getElem?_getD]
    by_cases e : j < s
    · rw [List.getElem?_append_left (by rw [h.len]; exact e), ← List.getD_eq_getElem?_getD]
      exact h.mem j e
    · have : j = x.out.length := by rw [h.len]; omega
      subst this
      simp; omega
  · exact Nat.lt_of_le_of_lt (Nat.sub_le _ _) h.lt
  · show Srch.count (x.left - 2 ^ i) S.n = _
    rw [Srch.count_sub hl (by omega) h1, if_pos hi, h.cnt]; omega
  · exact absurd h0 (by simp [Chg.push])
  · show (if x.out ++ [(i : Int)] = [] then _ else S.R (x.left - 2 ^ i) ((x.out ++ [(i : Int)]).getD ((x.out ++ [(i : Int)]).length - 1) 0).toNat) = x.rem - S.toll x i
    rw [if_neg (by simp), ← h2]
    have : ((x.out ++ [(i : Int)]).getD ((x.out ++ [(i : Int)]).length - 1) 0).toNat = i := by simp
    rw [this]; omega

theorem ok_st (hn : S.n ≤ 60) (hw : ∀ l i, l < S.n → i < S.n → 0 ≤ S.w l i ∧ S.w l i ≤ 10000) : ∀ s, s ≤ S.n → S.Ok (S.st s) s
  | 0, _ => S.ok_zero
  | s + 1, h => by
    have ih := ok_st hn hw s (by omega)
    obtain ⟨i, hi, hg⟩ := ih.good hw (by omega)
    have key : ∀ m, m ≤ S.n → (∃ j, j < m ∧ S.good (S.st s) j = true) → ∃ j, j < m ∧ S.good (S.st s) j = true ∧ ∀ l, l < j → S.good (S.st s) l = false := by
      intro m
      induction m with
      | zero => intro _ ⟨j, hj, _⟩; omega
      | succ m ihm =>
        intro hm ⟨j, hj, hgj⟩
        by_cases hex : ∃ j, j < m ∧ S.good (S.st s) j = true
        · obtain ⟨l, a, b, c⟩ := ihm (by omega) hex
          exact ⟨l, by omega, b, c⟩
        · have e : j = m := by
            by_cases e : j = m
            · exact e
            · exact absurd ⟨j, by omega, hgj⟩ hex
          subst e
          refine ⟨j, by omega, hgj, fun l hl => ?_⟩
          cases hb : S.good (S.st s) l with
          | false => rfl
          | true => exact absurd ⟨l, hl, hb⟩ hex
    obtain ⟨j, hj, hgj, hfirst⟩ := key S.n (Nat.le_refl _) ⟨i, hi, hg⟩
    have hp : S.pick (S.st s) S.n 0 = j := S.pick_eq (S.st s) S.n 0 j (by omega) (by omega) hgj (fun l _ hl => hfirst l hl)
    show S.Ok (S.push (S.st s) (S.pick (S.st s) S.n 0)) (s + 1)
    rw [hp]
    exact ih.push hn hgj hj
end Chg
end Sets
namespace Sets
namespace Srch
variable {S : Srch}
/-- Bounds of a search's numbers. -/
structure Bd (S : Srch) : Prop where
  n10 : S.n ≤ 10
  tm : ∀ i, i < S.n → 0 ≤ S.tm i ∧ S.tm i ≤ 10000
  c : ∀ i t, i < S.n → 0 ≤ t → t ≤ 1000000 → -10000000000 ≤ S.c i t ∧ S.c i t ≤ 10000000000
  B : ∀ a b x y : Int, -x ≤ a → a ≤ x → -y ≤ b → b ≤ y → -(x + y) ≤ S.B a b ∧ S.B a b ≤ x + y

theorem total_bd (h : Bd S) : ∀ k, k ≤ S.n → 0 ≤ S.total k ∧ S.total k ≤ 10000 * k
  | 0, _ => by simp [total]
  | k + 1, hk => by
    have := total_bd h k (by omega)
    have := h.tm k (by omega)
    simp only [total]; omega

theorem sumK_bd (h : Bd S) (s : Nat) : ∀ k, k ≤ S.n → 0 ≤ S.sumK s k ∧ S.sumK s k ≤ S.total k
  | 0, _ => by simp [sumK, total]
  | k + 1, hk => by
    have := sumK_bd h s k (by omega)
    have := h.tm k (by omega)
    simp only [total, sumK]; split <;> omega

theorem now_bd (h : Bd S) (s : Nat) : 0 ≤ S.now s ∧ S.now s ≤ 100000 := by
  have h1 := total_bd h S.n (Nat.le_refl _)
  have h2 := sumK_bd h s S.n (Nat.le_refl _)
  have := h.n10
  unfold now; omega

theorem lt62 (h : Bd S) {s : Nat} (hs : s < 2 ^ S.n) : s < 2 ^ 62 := Nat.lt_of_lt_of_le hs (Nat.pow_le_pow_right (by decide) (by have := h.n10; omega))
theorem lt1024 (h : Bd S) {s : Nat} (hs : s < 2 ^ S.n) : s < 1024 := by
  have : 2 ^ S.n ≤ 2 ^ 10 := Nat.pow_le_pow_right (by decide) h.n10
  have e : (2 : Nat) ^ 10 = 1024 := by decide
  omega

theorem cand_bd (h : Bd S) {s i : Nat} (hs : s < 2 ^ S.n) (hi : i < S.n) (hh : has s i = true)
    (hr : -(10000000000 * (count (s - 2 ^ i) S.n : Int)) ≤ S.R (s - 2 ^ i) ∧ S.R (s - 2 ^ i) ≤ 10000000000 * (count (s - 2 ^ i) S.n : Int)) :
    -(10000000000 * (count s S.n : Int)) ≤ S.cand S.R (S.now s) s i ∧ S.cand S.R (S.now s) s i ≤ 10000000000 * (count s S.n : Int) := by
  have hc := count_pos S.n ⟨i, hi, hh⟩
  have he := count_sub (lt62 h hs) (by have := h.n10; omega) hh S.n
  rw [if_pos hi] at he
  have hn := now_bd h s
  have ht := h.tm i hi
  have h1 := h.c i (S.now s + S.tm i) hi (by omega) (by omega)
  unfold cand
  split
  · omega
  · have h2 := h.B _ _ _ _ (by omega : -(10000000000 : Int) ≤ S.c i (S.now s + S.tm i)) h1.2 hr.1 hr.2
    rw [he] at h2
    omega

theorem R_bd (h : Bd S) : ∀ s, s < 2 ^ S.n → -(10000000000 * (count s S.n : Int)) ≤ S.R s ∧ S.R s ≤ 10000000000 * (count s S.n : Int) := by
  intro s
  induction s using Nat.strongRecOn with
  | ind s ih =>
    intro hs
    by_cases h0 : s = 0
    · subst h0; rw [R_zero]; omega
    · obtain ⟨i, h1, h2, h3⟩ := S.R_has hs h0
      have hp : 0 < 2 ^ i := Nat.pow_pos (by decide)
      have hle := has_le h2
      rw [h3]
      exact cand_bd h hs h1 h2 (ih _ (by omega) (by omega))

theorem R_bd' (h : Bd S) {s : Nat} (hs : s < 2 ^ S.n) : -100000000000 ≤ S.R s ∧ S.R s ≤ 100000000000 := by
  have := R_bd h s hs
  have := count_le s S.n
  have := h.n10
  omega

theorem cand_bd' (h : Bd S) {s i : Nat} (hs : s < 2 ^ S.n) (hi : i < S.n) (hh : has s i = true) :
    -100000000000 ≤ S.cand S.R (S.now s) s i ∧ S.cand S.R (S.now s) s i ≤ 100000000000 := by
  have hp : 0 < 2 ^ i := Nat.pow_pos (by decide)
  have hle := has_le hh
  have := cand_bd h hs hi hh (R_bd h _ (by omega))
  have := count_le s S.n
  have := h.n10
  omega

/-- The fold as a step: what is found so far. -/
theorem fold_bd (h : Bd S) {s : Nat} (hs : s < 2 ^ S.n) : ∀ k, k ≤ S.n → ∀ v, S.foldK S.R (S.now s) s k = some v → -100000000000 ≤ v ∧ v ≤ 100000000000
  | 0, _, v, hv => by simp [foldK] at hv
  | k + 1, hk, v, hv => by
    simp only [foldK] at hv
    cases hh : has s k with
    | false => rw [hh] at hv; exact fold_bd h hs k (by omega) v (by simpa using hv)
    | true =>
      have hc := cand_bd' h hs (by omega : k < S.n) hh
      rw [hh, if_pos rfl] at hv
      cases hf : S.foldK S.R (S.now s) s k with
      | none => rw [hf] at hv; simp only [Option.some.injEq] at hv; omega
      | some y =>
        have := fold_bd h hs k (by omega) y hf
        rw [hf] at hv
        simp only at hv
        split at hv <;> (simp only [Option.some.injEq] at hv; omega)

theorem next_bd (h : Bd S) {x : St} {s i : Nat} (ho : S.Ok x s) (hi : i < S.n) (hx : -(10000000000 * (s : Int)) ≤ x.cost ∧ x.cost ≤ 10000000000 * (s : Int)) :
    -(10000000000 * ((s + 1 : Nat) : Int)) ≤ S.next x i ∧ S.next x i ≤ 10000000000 * ((s + 1 : Nat) : Int) := by
  have hn := now_bd h x.left
  have ht := h.tm i hi
  have h1 := h.c i (x.now + S.tm i) hi (by rw [ho.now]; omega) (by rw [ho.now]; omega)
  unfold next
  split
  · omega
  · have h2 := h.B _ _ _ _ hx.1 hx.2 (by omega : -(10000000000 : Int) ≤ S.c i (x.now + S.tm i)) h1.2
    omega

/-- The first good one of a state. -/
theorem Ok.first (h : Bd S) (hB : ∀ a b c, S.B (S.B a b) c = S.B a (S.B b c)) {x : St} {s : Nat} (ho : S.Ok x s) (hs : s < S.n) :
    S.pick x S.n 0 < S.n ∧ S.good x (S.pick x S.n 0) = true ∧ ∀ l, l < S.pick x S.n 0 → S.good x l = false := by
  obtain ⟨i, hi, hg⟩ := ho.good hB hs
  have key : ∀ m, m ≤ S.n → (∃ j, j < m ∧ S.good x j = true) → ∃ j, j < m ∧ S.good x j = true ∧ ∀ l, l < j → S.good x l = false := by
    intro m
    induction m with
    | zero => intro _ ⟨j, hj, _⟩; omega
    | succ m ihm =>
      intro hm ⟨j, hj, hgj⟩
      by_cases hex : ∃ j, j < m ∧ S.good x j = true
      · obtain ⟨l, a, b, c⟩ := ihm (by omega) hex
        exact ⟨l, by omega, b, c⟩
      · have e : j = m := by
          by_cases e : j = m
          · exact e
          · exact absurd ⟨j, by omega, hgj⟩ hex
        subst e
        refine ⟨j, by omega, hgj, fun l hl => ?_⟩
        cases hb : S.good x l with
        | false => rfl
        | true => exact absurd ⟨l, hl, hb⟩ hex
  obtain ⟨j, hj, hgj, hfirst⟩ := key S.n (Nat.le_refl _) ⟨i, hi, hg⟩
  have hp : S.pick x S.n 0 = j := S.pick_eq x S.n 0 j (by omega) (by omega) hgj (fun l _ hl => hfirst l hl)
  rw [hp]
  exact ⟨hj, hgj, hfirst⟩

theorem st_cost (h : Bd S) (hB : ∀ a b c, S.B (S.B a b) c = S.B a (S.B b c)) : ∀ s, s ≤ S.n → -(10000000000 * (s : Int)) ≤ (S.st s).cost ∧ (S.st s).cost ≤ 10000000000 * (s : Int)
  | 0, _ => by simp [st]
  | s + 1, hs => by
    have ih := st_cost h hB s (by omega)
    have ho := ok_st (S := S) (by have := h.n10; omega) hB s (by omega)
    exact next_bd h ho (ho.first h hB (by omega)).1 ih
end Srch

namespace Chg
variable {S : Chg}
theorem Ok.first (hw : ∀ l i, l < S.n → i < S.n → 0 ≤ S.w l i ∧ S.w l i ≤ 10000) {x : St} {s : Nat} (ho : S.Ok x s) (hs : s < S.n) :
    S.pick x S.n 0 < S.n ∧ S.good x (S.pick x S.n 0) = true ∧ ∀ l, l < S.pick x S.n 0 → S.good x l = false := by
  obtain ⟨i, hi, hg⟩ := ho.good hw hs
  have key : ∀ m, m ≤ S.n → (∃ j, j < m ∧ S.good x j = true) → ∃ j, j < m ∧ S.good x j = true ∧ ∀ l, l < j → S.good x l = false := by
    intro m
    induction m with
    | zero => intro _ ⟨j, hj, _⟩; omega
    | succ m ihm =>
      intro hm ⟨j, hj, hgj⟩
      by_cases hex : ∃ j, j < m ∧ S.good x j = true
      · obtain ⟨l, a, b, c⟩ := ihm (by omega) hex
        exact ⟨l, by omega, b, c⟩
      · have e : j = m := by
          by_cases e : j = m
          · exact e
          · exact absurd ⟨j, by omega, hgj⟩ hex
        subst e
        refine ⟨j, by omega, hgj, fun l hl => ?_⟩
        cases hb : S.good x l with
        | false => rfl
        | true => exact absurd ⟨l, hl, hb⟩ hex
  obtain ⟨j, hj, hgj, hfirst⟩ := key S.n (Nat.le_refl _) ⟨i, hi, hg⟩
  have hp : S.pick x S.n 0 = j := S.pick_eq x S.n 0 j (by omega) (by omega) hgj (fun l _ hl => hfirst l hl)
  rw [hp]
  exact ⟨hj, hgj, hfirst⟩

theorem st_out_len (s : Nat) : (S.st s).out.length = s := by
  induction s with
  | zero => rfl
  | succ s ih => simp [st, push, ih]
end Chg
end Sets
