/-
  Plain mathematics: jobs that can stop and go on, hour by hour. Conditions: none.
-/
set_option linter.unusedVariables false
set_option linter.unusedSimpArgs false
namespace Pcs

structure Env where
  n : Nat
  rel : Nat → Int
  due : Nat → Int
  rule : Int

structure St where
  left : List Int
  ends : List Int
  pieces : List Int
  last : Int

namespace Env
variable (E : Env)

/-- May the i-th job go on. -/
def may (left : List Int) (t : Int) (i : Nat) : Bool := decide (E.rel i ≤ t) && !decide (left.getD i 0 = 0)
/-- Is the i-th better than b. -/
def beats (left : List Int) (b : Int) (i : Nat) : Bool :=
  decide (b < 0) || (decide (E.rule = 0) && decide (left.getD i 0 < left.getD b.toNat 0)) || (decide (E.rule = 1) && decide (E.due i < E.due b.toNat))
/-- The best one of the first k; -1 if there is none. -/
def bestK (left : List Int) (t : Int) : Nat → Int
  | 0 => -1
  | k + 1 => if E.may left t k && E.beats left (bestK left t k) k then (k : Int) else bestK left t k

def step (x : St) (t : Int) : St :=
  let b := E.bestK x.left t E.n
  if b < 0 then { x with last := b }
  else ⟨x.left.set b.toNat (x.left.getD b.toNat 0 - 1), x.ends.set b.toNat (t + 1), if b = x.last then x.pieces else x.pieces.set b.toNat (x.pieces.getD b.toNat 0 + 1), b⟩

def at' (x : St) : Nat → St
  | 0 => x
  | k + 1 => E.step (at' x k) k

theorem bestK_cases (left : List Int) (t : Int) : ∀ k, (E.bestK left t k = -1 ∧ ∀ i, i < k → E.may left t i = false) ∨ ∃ i : Nat, i < k ∧ E.bestK left t k = i ∧ E.may left t i = true
  | 0 => .inl ⟨rfl, fun i hi => by omega⟩
  | k + 1 => by
    simp only [bestK]
    rcases bestK_cases left t k with ⟨h1, h2⟩ | ⟨i, hi, h1, h2⟩
    · cases hm : E.may left t k with
      | true =>
        right
        refine ⟨k, by omega, ?_, hm⟩
        rw [h1]; simp [beats]
      | false =>
        left
        refine ⟨by simpa using h1, fun i hi => ?_⟩
        by_cases e : i = k
        · subst e; exact hm
        · exact h2 i (by omega)
    · right
      by_cases hc : (E.may left t k && E.beats left (E.bestK left t k) k) = true
      · rw [if_pos hc]
        rw [Bool.and_eq_true] at hc
        exact ⟨k, by omega, rfl, hc.1⟩
      · rw [if_neg hc]
        exact ⟨i, by omega, h1, h2⟩

def sumK (l : List Int) : Nat → Int
  | 0 => 0
  | k + 1 => sumK l k + l.getD k 0

theorem getD_set (l : List Int) (i j : Nat) (v : Int) (hi : i < l.length) : (l.set i v).getD j 0 = if i = j then v else l.getD j 0 := by
  rw [List.getD_eq_getElem?_getD, List.getElem?_set, List.getD_eq_getElem?_getD]
  by_cases h : i = j
  · subst h; simp [hi]
  · simp [h]

theorem sumK_set (l : List Int) (i : Nat) (v : Int) (hi : i < l.length) : ∀ k, sumK (l.set i v) k = if i < k then sumK l k - l.getD i 0 + v else sumK l k
  | 0 => by simp [sumK]
  | k + 1 => by
    simp only [sumK, sumK_set l i v hi k, getD_set l i k v hi]
    by_cases h : i = k
    · subst h; simp
    · by_cases h2 : i < k
      · have : i < k + 1 := by omega
        simp [h, h2, this]; omega
      · have : ¬ i < k + 1 := by omega
        simp [h, h2, this]

/-- What holds at each hour. -/
structure Ok (x : St) : Prop where
  l1 : x.left.length = E.n
  l2 : x.ends.length = E.n
  l3 : x.pieces.length = E.n
  nn : ∀ i, i < E.n → 0 ≤ x.left.getD i 0
  la : -1 ≤ x.last ∧ x.last < E.n

variable {E}

theorem may_pos {x : St} (h : E.Ok x) {t : Int} {i : Nat} (hi : i < E.n) (hm : E.may x.left t i = true) : 0 < x.left.getD i 0 := by
  unfold may at hm
  have := h.nn i hi
  simp at hm
  have h2 := hm.2
  rw [List.getD_eq_getElem?_getD] at *
  omega

theorem Ok.step {x : St} (h : E.Ok x) (t : Int) : E.Ok (E.step x t) := by
  unfold Env.step
  rcases E.bestK_cases x.left t E.n with ⟨h1, h2⟩ | ⟨i, hi, h1, h2⟩
  · rw [h1]
    exact ⟨h.l1, h.l2, h.l3, h.nn, by show -1 ≤ (-1 : Int) ∧ _; constructor <;> simp <;> omega⟩
  · rw [h1]
    have hp := may_pos h hi h2
    have hlt : i < x.left.length := by rw [h.l1]; exact hi
    simp only [Int.toNat_natCast]
    rw [if_neg (by omega)]
    refine ⟨by simpa using h.l1, by simpa using h.l2, ?_, fun j hj => ?_, by show -1 ≤ (i : Int) ∧ (i : Int) < E.n; omega⟩
    · show (if (i : Int) = x.last then x.pieces else _).length = E.n
      split
      · exact h.l3
      · simpa using h.l3
    · show 0 ≤ (x.left.set i _).getD j 0
      rw [getD_set _ _ _ _ hlt]
      split
      · omega
      · exact h.nn j hj

theorem Ok.at' {x : St} (h : E.Ok x) : ∀ k, E.Ok (E.at' x k)
  | 0 => h
  | k + 1 => (Ok.at' h k).step k

theorem sum_step {x : St} (h : E.Ok x) (t : Int) : sumK (E.step x t).left E.n = sumK x.left E.n - (if E.bestK x.left t E.n < 0 then 0 else 1) := by
  unfold Env.step
  rcases E.bestK_cases x.left t E.n with ⟨h1, h2⟩ | ⟨i, hi, h1, h2⟩
  · rw [h1]; simp
  · rw [h1]
    have hlt : i < x.left.length := by rw [h.l1]; exact hi
    have hn : ¬ (i : Int) < 0 := by omega
    simp only [Int.toNat_natCast]
    rw [if_neg hn, if_neg hn]
    show sumK (x.left.set i _) E.n = _
    rw [sumK_set _ _ _ hlt, if_pos hi]
    omega

theorem sum_nn {x : St} (h : E.Ok x) : ∀ k, k ≤ E.n → 0 ≤ sumK x.left k ∧ ∀ i, i < k → x.left.getD i 0 ≤ sumK x.left k
  | 0, _ => ⟨Int.le_refl _, fun i hi => by omega⟩
  | k + 1, hk => by
    have ih := sum_nn h k (by omega)
    have h2 := h.nn k (by omega)
    simp only [sumK]
    refine ⟨by omega, fun i hi => ?_⟩
    by_cases e : i = k
    · subst e; omega
    · have := ih.2 i (by omega); omega

theorem sum_some {x : St} (h : E.Ok x) : ∀ k, k ≤ E.n → 0 < sumK x.left k → ∃ i, i < k ∧ 0 < x.left.getD i 0
  | 0, _, h0 => by simp [sumK] at h0
  | k + 1, hk, h0 => by
    simp only [sumK] at h0
    by_cases e : 0 < x.left.getD k 0
    · exact ⟨k, by omega, e⟩
    · obtain ⟨i, hi, h2⟩ := sum_some h k (by omega) (by omega)
      exact ⟨i, by omega, h2⟩

/-- From the latest release on, each hour works. -/
theorem sum_down {x : St} (h : E.Ok x) {t : Int} (ht : ∀ i, i < E.n → E.rel i ≤ t) (hp : 0 < sumK x.left E.n) : sumK (E.step x t).left E.n = sumK x.left E.n - 1 := by
  rw [sum_step h]
  obtain ⟨i, hi, h2⟩ := sum_some h E.n (Nat.le_refl _) hp
  rcases E.bestK_cases x.left t E.n with ⟨h1, h3⟩ | ⟨j, hj, h1, h3⟩
  · have := h3 i hi
    unfold may at this
    have h4 := ht i hi
    rw [decide_eq_true h4, decide_eq_false (by omega)] at this
    cases this
  · rw [h1, if_neg (by omega)]

theorem sum_mono {x : St} (h : E.Ok x) (t : Int) : sumK (E.step x t).left E.n ≤ sumK x.left E.n := by
  rw [sum_step h]; split <;> omega

theorem sum_at {x : St} (h : E.Ok x) : ∀ k, sumK (E.at' x k).left E.n ≤ sumK x.left E.n
  | 0 => Int.le_refl _
  | k + 1 => Int.le_trans (sum_mono (h.at' k) k) (sum_at h k)

theorem sum_late {x : St} (h : E.Ok x) {L : Nat} (hL : ∀ i, i < E.n → E.rel i ≤ L) : ∀ k, sumK (E.at' x (L + k)).left E.n ≤ max 0 (sumK x.left E.n - k)
  | 0 => by have := sum_at h L; simp only [Nat.add_zero] at *; omega
  | k + 1 => by
    have ih := sum_late h hL k
    have hk := h.at' (L + k)
    have e : E.at' x (L + (k + 1)) = E.step (E.at' x (L + k)) ((L + k : Nat) : Int) := rfl
    rw [e]
    by_cases hp : 0 < sumK (E.at' x (L + k)).left E.n
    · rw [sum_down hk (fun i hi => by have := hL i hi; omega) hp]; omega
    · have := sum_mono hk ((L + k : Nat) : Int); omega

/-- Where nothing is left nothing happens. -/
theorem step_done {x : St} (h : E.Ok x) (t : Int) (h0 : sumK x.left E.n = 0) : (E.step x t).left = x.left ∧ (E.step x t).ends = x.ends ∧ (E.step x t).pieces = x.pieces := by
  unfold Env.step
  rcases E.bestK_cases x.left t E.n with ⟨h1, h2⟩ | ⟨i, hi, h1, h2⟩
  · rw [h1]; exact ⟨rfl, rfl, rfl⟩
  · exfalso
    have := may_pos h hi h2
    have := (sum_nn h E.n (Nat.le_refl _)).2 i hi
    omega

theorem at_done {x : St} (h : E.Ok x) (k : Nat) (h0 : sumK (E.at' x k).left E.n = 0) : ∀ d, (E.at' x (k + d)).left = (E.at' x k).left ∧ (E.at' x (k + d)).ends = (E.at' x k).ends ∧ (E.at' x (k + d)).pieces = (E.at' x k).pieces
  | 0 => ⟨rfl, rfl, rfl⟩
  | d + 1 => by
    obtain ⟨a, b, c⟩ := at_done h k h0 d
    have e : E.at' x (k + (d + 1)) = E.step (E.at' x (k + d)) ((k + d : Nat) : Int) := rfl
    obtain ⟨a', b', c'⟩ := step_done (h.at' (k + d)) ((k + d : Nat) : Int) (by rw [a]; exact h0)
    rw [e]
    exact ⟨a'.trans a, b'.trans b, c'.trans c⟩

theorem step_left_le {x : St} (h : E.Ok x) (t : Int) (i : Nat) (hi : i < E.n) : (E.step x t).left.getD i 0 ≤ x.left.getD i 0 := by
  unfold Env.step
  rcases E.bestK_cases x.left t E.n with ⟨h1, h2⟩ | ⟨j, hj, h1, h2⟩
  · rw [h1]; exact Int.le_refl _
  · rw [h1]
    have hlt : j < x.left.length := by rw [h.l1]; exact hj
    simp only [Int.toNat_natCast]
    rw [if_neg (by omega)]
    show (x.left.set j _).getD i 0 ≤ _
    rw [getD_set _ _ _ _ hlt]
    split
    · rename_i e; subst e; omega
    · exact Int.le_refl _

theorem step_pieces {x : St} (h : E.Ok x) (t : Int) (i : Nat) (hi : i < E.n) : x.pieces.getD i 0 ≤ (E.step x t).pieces.getD i 0 ∧ (E.step x t).pieces.getD i 0 ≤ x.pieces.getD i 0 + 1 := by
  rcases E.bestK_cases x.left t E.n with ⟨h1, h2⟩ | ⟨j, hj, h1, h2⟩
  · have e : E.step x t = { x with last := -1 } := by
      unfold Env.step
      rw [h1]; rfl
    rw [e]
    exact ⟨Int.le_refl _, by show x.pieces.getD i 0 ≤ x.pieces.getD i 0 + 1; omega⟩
  · unfold Env.step
    rw [h1]
    have hlt : j < x.pieces.length := by rw [h.l3]; exact hj
    simp only [Int.toNat_natCast]
    rw [if_neg (by omega)]
    show x.pieces.getD i 0 ≤ (if (j : Int) = x.last then x.pieces else _).getD i 0 ∧ (if (j : Int) = x.last then x.pieces else _).getD i 0 ≤ _
    split
    · omega
    · rw [getD_set _ _ _ _ hlt]
      split
      · rename_i e; subst e; omega
      · omega

theorem at_bd {x : St} (h : E.Ok x) (h0 : ∀ i, i < E.n → x.left.getD i 0 ≤ 10000) (hp : ∀ i, i < E.n → x.pieces.getD i 0 = 0) :
    ∀ k i, i < E.n → 0 ≤ (E.at' x k).left.getD i 0 ∧ (E.at' x k).left.getD i 0 ≤ 10000 ∧ 0 ≤ (E.at' x k).pieces.getD i 0 ∧ (E.at' x k).pieces.getD i 0 ≤ k
  | 0, i, hi => by
    have a := h.nn i hi; have b := h0 i hi; have c := hp i hi
    show 0 ≤ x.left.getD i 0 ∧ x.left.getD i 0 ≤ 10000 ∧ 0 ≤ x.pieces.getD i 0 ∧ x.pieces.getD i 0 ≤ ((0 : Nat) : Int)
    omega
  | k + 1, i, hi => by
    have ih := at_bd h h0 hp k i hi
    have hk := h.at' k
    have a := step_left_le hk (k : Int) i hi
    have b := step_pieces hk (k : Int) i hi
    have c := (hk.step (k : Int)).nn i hi
    show 0 ≤ (E.step (E.at' x k) k).left.getD i 0 ∧ (E.step (E.at' x k) k).left.getD i 0 ≤ 10000 ∧ 0 ≤ (E.step (E.at' x k) k).pieces.getD i 0 ∧ (E.step (E.at' x k) k).pieces.getD i 0 ≤ ((k + 1 : Nat) : Int)
    omega

/-- What a step does where the best is q. -/
theorem step_yes {x : St} {t : Int} {q : Nat} (h : E.bestK x.left t E.n = q) : E.step x t = ⟨x.left.set q (x.left.getD q 0 - 1), x.ends.set q (t + 1), if (q : Int) = x.last then x.pieces else x.pieces.set q (x.pieces.getD q 0 + 1), q⟩ := by
  unfold Env.step
  rw [h]
  simp only [Int.toNat_natCast]
  rw [if_neg (by omega)]
theorem step_no {x : St} {t : Int} (h : E.bestK x.left t E.n = -1) : E.step x t = { x with last := -1 } := by
  unfold Env.step
  rw [h]; rfl
end Env
end Pcs
