/-
  Plain mathematics: the least parting of jobs to batches: the table, the least list of sizes, the choice of the reference. Conditions: none.
-/
set_option linter.unusedVariables false
set_option linter.unusedSimpArgs false
namespace Batch

/-- What slices.Compare says of two lists. -/
def cmpL : List Int → List Int → Int
  | [], [] => 0
  | [], _ :: _ => -1
  | _ :: _, [] => 1
  | a :: as, b :: bs => if a < b then -1 else if b < a then 1 else cmpL as bs

theorem cmpL_refl : ∀ l, cmpL l l = 0
  | [] => rfl
  | a :: l => by simp [cmpL, cmpL_refl l]

theorem cmpL_eq : ∀ a b, cmpL a b = 0 → a = b
  | [], [], _ => rfl
  | [], _ :: _, h => by simp [cmpL] at h
  | _ :: _, [], h => by simp [cmpL] at h
  | a :: as, b :: bs, h => by
    simp only [cmpL] at h
    split at h
    · omega
    · split at h
      · omega
      · rw [cmpL_eq as bs h, show a = b by omega]

theorem cmpL_neg : ∀ a b, cmpL b a = - cmpL a b
  | [], [] => rfl
  | [], _ :: _ => rfl
  | _ :: _, [] => rfl
  | a :: as, b :: bs => by
    simp only [cmpL]
    rcases Int.lt_trichotomy a b with h | h | h
    · rw [if_neg (by omega), if_pos h, if_pos h]; rfl
    · rw [if_neg (by omega), if_neg (by omega), if_neg (by omega), if_neg (by omega)]; exact cmpL_neg as bs
    · rw [if_pos h, if_neg (by omega), if_pos h]

theorem cmpL_trans : ∀ a b c, cmpL a b ≤ 0 → cmpL b c ≤ 0 → cmpL a c ≤ 0
  | [], [], _, _, h => h
  | [], _ :: _, [], _, h => by simp [cmpL]
  | [], _ :: _, _ :: _, _, _ => by simp [cmpL]
  | _ :: _, [], _, h, _ => by simp [cmpL] at h
  | _ :: _, _ :: _, [], _, h => by simp [cmpL] at h
  | a :: as, b :: bs, c :: cs, h1, h2 => by
    simp only [cmpL] at h1 h2 ⊢
    by_cases e1 : a < b
    · by_cases e2 : b < c
      · rw [if_pos (by omega)]; decide
      · rw [if_neg e2] at h2
        by_cases e3 : c < b
        · rw [if_pos e3] at h2; omega
        · rw [if_pos (by omega)]; decide
    · rw [if_neg e1] at h1
      by_cases e2 : b < a
      · rw [if_pos e2] at h1; omega
      · rw [if_neg e2] at h1
        have : a = b := by omega
        subst this
        by_cases e3 : a < c
        · rw [if_pos e3]; decide
        · rw [if_neg e3] at h2 ⊢
          by_cases e4 : c < a
          · rw [if_pos e4] at h2; omega
          · rw [if_neg e4] at h2 ⊢; exact cmpL_trans as bs cs h1 h2

/-- m is the least of some lists. -/
def IsMin (m : List Int) (ls : List (List Int)) : Prop := m ∈ ls ∧ ∀ l ∈ ls, cmpL m l ≤ 0

theorem IsMin.uniq {m m' : List Int} {ls : List (List Int)} (h : IsMin m ls) (h' : IsMin m' ls) : m = m' := by
  have a := h.2 m' h'.1
  have b := h'.2 m h.1
  rw [cmpL_neg] at b
  exact cmpL_eq _ _ (by omega)

/-- An entry: cost and sizes, if it is there. -/
abbrev Ent := Option (Int × List Int)

def better : Ent → Ent → Ent
  | a, none => a
  | none, some x => some x
  | some a, some x => if a.1 < x.1 ∨ (a.1 = x.1 ∧ cmpL a.2 x.2 ≤ 0) then some a else some x

def cst : Ent → Int
  | none => -1
  | some a => a.1
def szs : Ent → List Int
  | none => []
  | some a => a.2

/-- n, the greatest size, what a batch costs: of the first k the last 'size' as the b-th. -/
structure Bp where
  most : Nat
  w : Nat → Nat → Nat → Int

namespace Bp
variable (S : Bp)

def ext (k s b : Nat) : Ent → Ent
  | none => none
  | some a => some (a.1 + S.w k s b, (s : Int) :: a.2)

/-- The best one with a last batch of at most s. -/
def fold (T : Nat → Ent) (k b : Nat) : Nat → Ent
  | 0 => none
  | s + 1 => better (fold T k b s) (S.ext k (s + 1) b (T (k - (s + 1))))

def T : Nat → Nat → Ent
  | 0, k => if k = 0 then some (0, []) else none
  | b + 1, k => S.fold (T b) k (b + 1) (min k S.most)

theorem fold_none {T : Nat → Ent} {k b : Nat} : ∀ s, (∀ i, i < s → T (k - (i + 1)) = none) → S.fold T k b s = none
  | 0, _ => rfl
  | s + 1, h => by
    simp only [fold]
    rw [fold_none s (fun i hi => h i (by omega)), h s (by omega)]; rfl

theorem T_big : ∀ b k, k < b → S.T b k = none
  | 0, _, h => by omega
  | b + 1, k, h => by
    simp only [T]
    refine S.fold_none _ fun i hi => ?_
    exact T_big b _ (by have := Nat.min_le_left k S.most; omega)

theorem T_zero (b : Nat) (h : b ≠ 0) : S.T b 0 = none := S.T_big b 0 (by omega)
theorem T_none (k : Nat) (h : k ≠ 0) : S.T 0 k = none := by simp [T, h]

variable {S} (hw : ∀ k s b, 0 ≤ S.w k s b)

theorem better_cost {a x : Ent} (ha : ∀ v, a = some v → 0 ≤ v.1) (hx : x ≠ none) : cst (better a x) = if cst a < 0 ∨ cst x < cst a then cst x else cst a := by
  cases x with
  | none => exact absurd rfl hx
  | some x =>
    cases a with
    | none => simp [better, cst]
    | some a =>
      have := ha a rfl
      have e : cst (better (some a) (some x)) = if a.1 < x.1 ∨ (a.1 = x.1 ∧ cmpL a.2 x.2 ≤ 0) then a.1 else x.1 := by
        simp only [better]; split <;> rfl
      rw [e]
      show (if a.1 < x.1 ∨ (a.1 = x.1 ∧ cmpL a.2 x.2 ≤ 0) then a.1 else x.1) = if a.1 < 0 ∨ x.1 < a.1 then x.1 else a.1
      split <;> split <;> omega

/-- What the fold found: the first size at which the cost is least. -/
structure Found (S : Bp) (T : Nat → Ent) (k b s : Nat) (c : Int) (l : List Int) (s0 : Nat) (c0 : Int) (l0 : List Int) : Prop where
  one : 1 ≤ s0
  le : s0 ≤ s
  at' : T (k - s0) = some (c0, l0)
  cost : c = c0 + S.w k s0 b
  list : l = (s0 : Int) :: l0
  low : ∀ s1 c1 l1, 1 ≤ s1 → s1 ≤ s → T (k - s1) = some (c1, l1) → c ≤ c1 + S.w k s1 b
  first : ∀ s1 c1 l1, 1 ≤ s1 → s1 < s0 → T (k - s1) = some (c1, l1) → c < c1 + S.w k s1 b

theorem fold_found {T : Nat → Ent} {k b : Nat} : ∀ s c l, S.fold T k b s = some (c, l) → ∃ s0 c0 l0, Found S T k b s c l s0 c0 l0
  | 0, _, _, h => by simp [fold] at h
  | s + 1, c, l, h => by
    simp only [fold] at h
    cases hT : T (k - (s + 1)) with
    | none =>
      rw [hT] at h
      have h' : S.fold T k b s = some (c, l) := by
        revert h; cases S.fold T k b s <;> simp [ext, better]
      obtain ⟨s0, c0, l0, f⟩ := fold_found s c l h'
      refine ⟨s0, c0, l0, f.one, by have := f.le; omega, f.at', f.cost, f.list, fun s1 c1 l1 h1 h2 h3 => ?_, f.first⟩
      by_cases e : s1 = s + 1
      · subst e; rw [hT] at h3; cases h3
      · exact f.low s1 c1 l1 h1 (by omega) h3
    | some v =>
      obtain ⟨c0, l0⟩ := v
      rw [hT] at h
      cases hf : S.fold T k b s with
      | none =>
        rw [hf] at h
        simp only [ext, better, Option.some.injEq, Prod.mk.injEq] at h
        obtain ⟨rfl, rfl⟩ := h
        have hn : ∀ s1 c1 l1, 1 ≤ s1 → s1 ≤ s → T (k - s1) = some (c1, l1) → False := by
          intro s1 c1 l1 h1 h2 h3
          have key : ∀ m, s1 ≤ m → S.fold T k b m ≠ none := by
            intro m
            induction m with
            | zero => intro hm; omega
            | succ m ih =>
              intro hm
              simp only [fold]
              by_cases e : s1 = m + 1
              · subst e
                rw [h3]
                cases S.fold T k b m <;> simp [ext, better]
                split <;> simp
              · have := ih (by omega)
                cases hx : S.fold T k b m with
                | none => exact absurd hx this
                | some y =>
                  cases S.ext k (m + 1) b (T (k - (m + 1))) <;> simp [better]
                  split <;> simp
          exact key s h2 hf
        refine ⟨s + 1, c0, l0, by omega, by omega, hT, rfl, rfl, fun s1 c1 l1 h1 h2 h3 => ?_, fun s1 c1 l1 h1 h2 h3 => (hn s1 c1 l1 h1 (by omega) h3).elim⟩
        by_cases e : s1 = s + 1
        · subst e; rw [hT] at h3; cases h3; omega
        · exact (hn s1 c1 l1 h1 (by omega) h3).elim
      | some y =>
        obtain ⟨cy, ly⟩ := y
        obtain ⟨s0, c2, l2, f⟩ := fold_found s cy ly hf
        rw [hf] at h
        simp only [ext, better] at h
        by_cases hc : cy < c0 + S.w k (s + 1) b ∨ (cy = c0 + S.w k (s + 1) b ∧ cmpL ly (((s + 1 : Nat) : Int) :: l0) ≤ 0)
        · rw [if_pos hc] at h
          simp only [Option.some.injEq, Prod.mk.injEq] at h
          obtain ⟨rfl, rfl⟩ := h
          refine ⟨s0, c2, l2, f.one, by have := f.le; omega, f.at', f.cost, f.list, fun s1 c1 l1 h1 h2 h3 => ?_, f.first⟩
          by_cases e : s1 = s + 1
          · subst e; rw [hT] at h3; cases h3; omega
          · exact f.low s1 c1 l1 h1 (by omega) h3
        · rw [if_neg hc] at h
          simp only [Option.some.injEq, Prod.mk.injEq] at h
          obtain ⟨rfl, rfl⟩ := h
          have hlt : c0 + S.w k (s + 1) b < cy := by
            rcases Int.lt_trichotomy cy (c0 + S.w k (s + 1) b) with h1 | h1 | h1
            · exact absurd (.inl h1) hc
            · refine absurd (.inr ⟨h1, ?_⟩) hc
              rw [f.list]
              simp only [cmpL]
              have := f.le
              rw [if_pos (by omega)]; decide
            · exact h1
          refine ⟨s + 1, c0, l0, by omega, by omega, hT, rfl, rfl, fun s1 c1 l1 h1 h2 h3 => ?_, fun s1 c1 l1 h1 h2 h3 => ?_⟩
          · by_cases e : s1 = s + 1
            · subst e; rw [hT] at h3; cases h3; omega
            · have := f.low s1 c1 l1 h1 (by omega) h3; omega
          · have := f.low s1 c1 l1 h1 (by omega) h3; omega

include hw in
theorem T_pos : ∀ b k c l, S.T b k = some (c, l) → 0 ≤ c
  | 0, k, c, l, h => by
    simp only [T] at h
    split at h
    · cases h; omega
    · cases h
  | b + 1, k, c, l, h => by
    obtain ⟨s0, c0, l0, f⟩ := fold_found _ c l h
    have := T_pos b _ c0 l0 f.at'
    have := hw k s0 (b + 1)
    have := f.cost
    omega

/-- Does size s serve at (k, b)? -/
def hit (S : Bp) (k b s : Nat) : Bool := decide (s ≤ k) && decide (s ≤ S.most) && decide (0 ≤ cst (S.T (b - 1) (k - s))) && decide (cst (S.T (b - 1) (k - s)) + S.w k s b = cst (S.T b k))

/-- What of some numbers of batches stays, one less, where the last batch has s. -/
def nxt (S : Bp) (k s : Nat) : List Nat → List Nat
  | [] => []
  | b :: bs => if hit S k b s then (b - 1) :: nxt S k s bs else nxt S k s bs

/-- The first size from s on that serves. -/
def size (S : Bp) (k : Nat) (bs : List Nat) : Nat → Nat → Nat
  | 0, s => s
  | f + 1, s => if nxt S k s bs ≠ [] then s else size S k bs f (s + 1)

theorem mem_nxt {k s x : Nat} : ∀ {bs : List Nat}, x ∈ nxt S k s bs ↔ ∃ b ∈ bs, hit S k b s = true ∧ x = b - 1
  | [] => by simp [nxt]
  | b :: bs => by
    simp only [nxt]
    split
    · rename_i h
      rw [List.mem_cons, mem_nxt (bs := bs)]
      constructor
      · rintro (rfl | ⟨b', h1, h2, h3⟩)
        · exact ⟨b, by simp, h, rfl⟩
        · exact ⟨b', by simp [h1], h2, h3⟩
      · rintro ⟨b', h1, h2, h3⟩
        rcases List.mem_cons.1 h1 with rfl | h1
        · exact .inl h3
        · exact .inr ⟨b', h1, h2, h3⟩
    · rename_i h
      rw [mem_nxt (bs := bs)]
      constructor
      · rintro ⟨b', h1, h2, h3⟩
        exact ⟨b', by simp [h1], h2, h3⟩
      · rintro ⟨b', h1, h2, h3⟩
        rcases List.mem_cons.1 h1 with rfl | h1
        · exact absurd h2 h
        · exact ⟨b', h1, h2, h3⟩

/-- All of some numbers of batches are there. -/
def Ok (S : Bp) (k : Nat) (bs : List Nat) : Prop := bs ≠ [] ∧ ∀ b ∈ bs, S.T b k ≠ none

/-- What an entry's list begins with. -/
theorem T_first {b k : Nat} (hk : k ≠ 0) (h : S.T b k ≠ none) (hw : ∀ k s b, 0 ≤ S.w k s b) :
    ∃ s0, 1 ≤ s0 ∧ s0 ≤ k ∧ hit S k b s0 = true ∧ S.T (b - 1) (k - s0) ≠ none ∧ szs (S.T b k) = (s0 : Int) :: szs (S.T (b - 1) (k - s0)) ∧ ∀ s1, 1 ≤ s1 → s1 < s0 → hit S k b s1 = false := by
  cases b with
  | zero => exact absurd (S.T_none k hk) h
  | succ b =>
    cases hT : S.T (b + 1) k with
    | none => exact absurd hT h
    | some v =>
      obtain ⟨c, l⟩ := v
      obtain ⟨s0, c0, l0, f⟩ := fold_found _ c l hT
      have hle := f.le
      have h1 := Nat.min_le_left k S.most
      have h2 := Nat.min_le_right k S.most
      have hp := T_pos hw b _ c0 l0 f.at'
      refine ⟨s0, f.one, by omega, ?_, ?_, ?_, fun s1 a1 a2 => ?_⟩
      · unfold hit
        rw [hT, Nat.add_sub_cancel, f.at']
        show (decide (s0 ≤ k) && decide (s0 ≤ S.most) && decide (0 ≤ c0) && decide (c0 + S.w k s0 (b + 1) = c)) = true
        rw [decide_eq_true (by omega : s0 ≤ k), decide_eq_true (by omega : s0 ≤ S.most), decide_eq_true hp, decide_eq_true f.cost.symm]; rfl
      · rw [Nat.add_sub_cancel, f.at']; exact fun h => by cases h
      · rw [Nat.add_sub_cancel, f.at']; exact f.list
      · unfold hit
        rw [hT, Nat.add_sub_cancel]
        cases hx : S.T b (k - s1) with
        | none => simp [cst]
        | some y =>
          obtain ⟨c1, l1⟩ := y
          have := f.first s1 c1 l1 a1 a2 hx
          show (decide (s1 ≤ k) && decide (s1 ≤ S.most) && decide (0 ≤ c1) && decide (c1 + S.w k s1 (b + 1) = c)) = false
          rw [decide_eq_false (by omega : ¬ c1 + S.w k s1 (b + 1) = c), Bool.and_false]

theorem size_eq {k : Nat} {bs : List Nat} : ∀ f s i, s ≤ i → i < s + f → nxt S k i bs ≠ [] → (∀ j, s ≤ j → j < i → nxt S k j bs = []) → size S k bs f s = i
  | 0, s, i, h1, h2, _, _ => by omega
  | f + 1, s, i, h1, h2, h3, h4 => by
    simp only [size]
    by_cases hs : s = i
    · subst hs; rw [if_pos h3]
    · rw [if_neg (by rw [h4 s (Nat.le_refl _) (by omega)]; simp)]
      exact size_eq f (s + 1) i (by omega) (by omega) h3 (fun j a b => h4 j (by omega) b)

/-- One step of the reference's choice. -/
theorem step {k : Nat} (hw : ∀ k s b, 0 ≤ S.w k s b) (hk : k ≠ 0) {bs : List Nat} (h : Ok S k bs) {m : List Int} (hm : IsMin m (bs.map fun b => szs (S.T b k))) :
    ∃ s0, 1 ≤ s0 ∧ s0 ≤ k ∧ (∀ s1, 1 ≤ s1 → s1 < s0 → nxt S k s1 bs = []) ∧ nxt S k s0 bs ≠ [] ∧ Ok S (k - s0) (nxt S k s0 bs) ∧
      ∃ m', m = (s0 : Int) :: m' ∧ IsMin m' ((nxt S k s0 bs).map fun b => szs (S.T b (k - s0))) := by
  obtain ⟨hmem, hlow⟩ := hm
  obtain ⟨b0, hb0, hm0⟩ := List.mem_map.1 hmem
  obtain ⟨s0, a1, a2, a3, a4, a5, a6⟩ := T_first hk (h.2 b0 hb0) hw
  have hless : ∀ s1, 1 ≤ s1 → s1 < s0 → nxt S k s1 bs = [] := by
    intro s1 c1 c2
    rw [List.eq_nil_iff_forall_not_mem]
    intro x hx
    obtain ⟨b, hb, hh, _⟩ := mem_nxt.1 hx
    obtain ⟨s2, d1, d2, d3, d4, d5, d6⟩ := T_first hk (h.2 b hb) hw
    have hs : ¬ s1 < s2 := fun e => by rw [d6 s1 c1 e] at hh; cases hh
    have := hlow _ (List.mem_map.2 ⟨b, hb, rfl⟩)
    rw [← hm0, a5, d5] at this
    simp only [cmpL] at this
    rw [if_neg (by omega), if_pos (by omega)] at this
    omega
  have hne : nxt S k s0 bs ≠ [] := by
    intro e
    have : b0 - 1 ∈ nxt S k s0 bs := mem_nxt.2 ⟨b0, hb0, a3, rfl⟩
    rw [e] at this; cases this
  -- whoever is hit at s0 has s0 for its first
  have hfirst : ∀ b ∈ bs, hit S k b s0 = true → S.T (b - 1) (k - s0) ≠ none ∧ szs (S.T b k) = (s0 : Int) :: szs (S.T (b - 1) (k - s0)) := by
    intro b hb hh
    obtain ⟨s2, d1, d2, d3, d4, d5, d6⟩ := T_first hk (h.2 b hb) hw
    have e : s2 = s0 := by
      rcases Nat.lt_trichotomy s2 s0 with e | e | e
      · exfalso
        have : b - 1 ∈ nxt S k s2 bs := mem_nxt.2 ⟨b, hb, d3, rfl⟩
        rw [hless s2 d1 e] at this; cases this
      · exact e
      · rw [d6 s0 a1 e] at hh; cases hh
    subst e
    exact ⟨d4, d5⟩
  refine ⟨s0, a1, a2, hless, hne, ⟨hne, fun x hx => ?_⟩, szs (S.T (b0 - 1) (k - s0)), by rw [← hm0, a5], ?_, fun l hl => ?_⟩
  · obtain ⟨b, hb, hh, rfl⟩ := mem_nxt.1 hx
    exact (hfirst b hb hh).1
  · exact List.mem_map.2 ⟨b0 - 1, mem_nxt.2 ⟨b0, hb0, a3, rfl⟩, rfl⟩
  · obtain ⟨x, hx, rfl⟩ := List.mem_map.1 hl
    obtain ⟨b, hb, hh, rfl⟩ := mem_nxt.1 hx
    have := hlow _ (List.mem_map.2 ⟨b, hb, rfl⟩)
    rw [← hm0, a5, (hfirst b hb hh).2] at this
    simpa [cmpL] using this

/-- The best of the first m numbers of batches. -/
def best (S : Bp) (n : Nat) : Nat → Ent
  | 0 => none
  | m + 1 => better (best S n m) (S.T m n)

/-- Those of the first m numbers of batches, but 0, that cost c. -/
def some' (S : Bp) (n : Nat) (c : Int) : Nat → List Nat
  | 0 => []
  | m + 1 => if m ≠ 0 ∧ cst (S.T m n) = c then some' S n c m ++ [m] else some' S n c m

/-- The least cost of the first m, but 0. -/
def least (S : Bp) (n : Nat) : Nat → Int
  | 0 => -1
  | m + 1 => if m ≠ 0 ∧ 0 ≤ cst (S.T m n) ∧ (least S n m < 0 ∨ cst (S.T m n) < least S n m) then cst (S.T m n) else least S n m

theorem mem_some {n x : Nat} {c : Int} : ∀ m, x ∈ some' S n c m ↔ x < m ∧ x ≠ 0 ∧ cst (S.T x n) = c
  | 0 => by simp [some']
  | m + 1 => by
    simp only [some']
    split
    · rename_i h
      rw [List.mem_append, mem_some m, List.mem_singleton]
      constructor
      · rintro (⟨a, b, d⟩ | rfl)
        · exact ⟨by omega, b, d⟩
        · exact ⟨by omega, h⟩
      · rintro ⟨a, b, d⟩
        by_cases e : x = m
        · exact .inr e
        · exact .inl ⟨by omega, b, d⟩
    · rename_i h
      rw [mem_some m]
      constructor
      · rintro ⟨a, b, d⟩; exact ⟨by omega, b, d⟩
      · rintro ⟨a, b, d⟩
        have : x ≠ m := by rintro rfl; exact h ⟨b, d⟩
        exact ⟨by omega, b, d⟩

theorem least_some {n m : Nat} {cm : Int} {lm : List Int} (hT : S.T m n = some (cm, lm)) (hm : m ≠ 0) (hp : 0 ≤ cm) :
    least S n (m + 1) = if least S n m < 0 ∨ cm < least S n m then cm else least S n m := by
  have e : cst (S.T m n) = cm := by rw [hT]; rfl
  simp only [least, e]
  by_cases h : least S n m < 0 ∨ cm < least S n m
  · rw [if_pos h, if_pos ⟨hm, hp, h⟩]
  · rw [if_neg h, if_neg (fun h' => h h'.2.2)]

theorem least_none {n m : Nat} (hT : S.T m n = none) : least S n (m + 1) = least S n m := by
  have e : cst (S.T m n) = -1 := by rw [hT]; rfl
  simp only [least, e]
  rw [if_neg (by omega)]

/-- What 'best' is. -/
theorem best_spec (hw : ∀ k s b, 0 ≤ S.w k s b) {n : Nat} (hn : n ≠ 0) : ∀ m, cst (best S n m) = least S n m ∧
    ((best S n m = none ∧ ∀ b, b < m → S.T b n = none) ∨ ∃ b c l, b < m ∧ S.T b n = some (c, l) ∧ best S n m = some (c, l) ∧ ∀ b' c' l', b' < m → S.T b' n = some (c', l') → c < c' ∨ (c = c' ∧ cmpL l l' ≤ 0))
  | 0 => ⟨rfl, .inl ⟨rfl, fun b h => by omega⟩⟩
  | m + 1 => by
    obtain ⟨ih1, ih2⟩ := best_spec hw hn m
    simp only [best]
    cases hT : S.T m n with
    | none =>
      have e : better (best S n m) none = best S n m := by cases best S n m <;> rfl
      rw [e, least_none hT]
      refine ⟨ih1, ?_⟩
      rcases ih2 with ⟨a, b⟩ | ⟨b, c, l, h1, h2, h3, h4⟩
      · refine .inl ⟨a, fun b' hb' => ?_⟩
        by_cases e : b' = m
        · subst e; exact hT
        · exact b b' (by omega)
      · refine .inr ⟨b, c, l, by omega, h2, h3, fun b' c' l' a1 a2 => ?_⟩
        by_cases e : b' = m
        · subst e; rw [hT] at a2; cases a2
        · exact h4 b' c' l' (by omega) a2
    | some v =>
      obtain ⟨cm, lm⟩ := v
      have hm : m ≠ 0 := by rintro rfl; rw [S.T_none n hn] at hT; cases hT
      have hp := T_pos hw m n cm lm hT
      rw [least_some hT hm hp, ← ih1]
      rcases ih2 with ⟨a, b⟩ | ⟨b, c, l, h1, h2, h3, h4⟩
      · rw [a]
        refine ⟨?_, .inr ⟨m, cm, lm, by omega, hT, rfl, fun b' c' l' a1 a2 => ?_⟩⟩
        · show cm = if (-1 : Int) < 0 ∨ cm < -1 then cm else -1
          rw [if_pos (.inl (by decide))]
        · by_cases e : b' = m
          · subst e; rw [hT] at a2; cases a2; exact .inr ⟨rfl, by rw [cmpL_refl]; decide⟩
          · rw [b b' (by omega)] at a2; cases a2
      · have hq := T_pos hw b n c l h2
        rw [h3]
        show cst (if c < cm ∨ (c = cm ∧ cmpL l lm ≤ 0) then some (c, l) else some (cm, lm)) = (if c < 0 ∨ cm < c then cm else c) ∧ ((if c < cm ∨ (c = cm ∧ cmpL l lm ≤ 0) then some (c, l) else some (cm, lm)) = none ∧ _ ∨ ∃ b' c' l', _ ∧ _ ∧ (if c < cm ∨ (c = cm ∧ cmpL l lm ≤ 0) then some (c, l) else some (cm, lm)) = some (c', l') ∧ _)
        by_cases hc : c < cm ∨ (c = cm ∧ cmpL l lm ≤ 0)
        · rw [if_pos hc]
          refine ⟨?_, .inr ⟨b, c, l, by omega, h2, rfl, fun b' c' l' a1 a2 => ?_⟩⟩
          · show c = if c < 0 ∨ cm < c then cm else c
            split <;> omega
          · by_cases e : b' = m
            · subst e; rw [hT] at a2; cases a2; exact hc
            · exact h4 b' c' l' (by omega) a2
        · rw [if_neg hc]
          refine ⟨?_, .inr ⟨m, cm, lm, by omega, hT, rfl, fun b' c' l' a1 a2 => ?_⟩⟩
          · show cm = if c < 0 ∨ cm < c then cm else c
            have : ¬ c < cm := fun h => hc (.inl h)
            split <;> omega
          · by_cases e : b' = m
            · subst e; rw [hT] at a2; cases a2; exact .inr ⟨rfl, by rw [cmpL_refl]; decide⟩
            · have h5 := h4 b' c' l' (by omega) a2
              rcases Int.lt_trichotomy c cm with h6 | h6 | h6
              · exact absurd (.inl h6) hc
              · have h7 : ¬ cmpL l lm ≤ 0 := fun h => hc (.inr ⟨h6, h⟩)
                rcases h5 with h5 | ⟨h5, h8⟩
                · left; omega
                · right
                  refine ⟨by omega, cmpL_trans _ l _ ?_ h8⟩
                  rw [cmpL_neg]; omega
              · left; rcases h5 with h5 | ⟨h5, _⟩ <;> omega

/-- There is a parting for each k: of batches of one. -/
theorem T_ones (hm : 1 ≤ S.most) : ∀ k, S.T k k ≠ none
  | 0 => by simp [T]
  | k + 1 => by
    have ih := T_ones hm k
    simp only [T]
    have key : ∀ s, 1 ≤ s → S.fold (S.T k) (k + 1) (k + 1) s ≠ none := by
      intro s
      induction s with
      | zero => intro h; omega
      | succ s ihs =>
        intro _
        simp only [fold]
        by_cases e : s = 0
        · subst e
          cases hx : S.T k k with
          | none => exact absurd hx ih
          | some y => simp [fold, ext, better, hx]
        · cases hx : S.fold (S.T k) (k + 1) (k + 1) s with
          | none => exact absurd hx (ihs (by omega))
          | some y =>
            cases S.ext (k + 1) (s + 1) (k + 1) (S.T k (k + 1 - (s + 1))) <;> simp [better]
            split <;> simp
    exact key _ (by have := Nat.le_min.2 ⟨(by omega : 1 ≤ k + 1), hm⟩; exact this)

/-- At the beginning: the numbers of batches that cost least; the least of their lists. -/
theorem start (hw : ∀ k s b, 0 ≤ S.w k s b) (hm : 1 ≤ S.most) {n : Nat} (hn : n ≠ 0) :
    Ok S n (some' S n (least S n (n + 1)) (n + 1)) ∧ IsMin (szs (best S n (n + 1))) ((some' S n (least S n (n + 1)) (n + 1)).map fun b => szs (S.T b n)) ∧ cst (best S n (n + 1)) = least S n (n + 1) ∧ 0 ≤ least S n (n + 1) := by
  obtain ⟨h1, h2⟩ := best_spec hw hn (n + 1)
  rcases h2 with ⟨_, b⟩ | ⟨b, c, l, a1, a2, a3, a4⟩
  · exact absurd (b n (by omega)) (T_ones hm n)
  · have hb0 : b ≠ 0 := by rintro rfl; rw [S.T_none n hn] at a2; cases a2
    have hc : least S n (n + 1) = c := by rw [← h1, a3]; rfl
    have hp := T_pos hw b n c l a2
    rw [hc]
    have hmem : b ∈ some' S n c (n + 1) := (mem_some _).2 ⟨a1, hb0, by rw [a2]; rfl⟩
    refine ⟨⟨(fun e => by rw [e] at hmem; cases hmem), fun x hx => ?_⟩, ⟨?_, fun l' hl' => ?_⟩, by rw [a3]; rfl, hp⟩
    · obtain ⟨_, _, h5⟩ := (mem_some _).1 hx
      intro e
      rw [e] at h5; simp only [cst] at h5; omega
    · rw [a3]
      exact List.mem_map.2 ⟨b, hmem, by rw [a2]⟩
    · obtain ⟨x, hx, rfl⟩ := List.mem_map.1 hl'
      obtain ⟨h6, _, h5⟩ := (mem_some _).1 hx
      rw [a3]
      cases hx2 : S.T x n with
      | none => rw [hx2] at h5; simp only [cst] at h5; omega
      | some y =>
        obtain ⟨c', l2⟩ := y
        rw [hx2] at h5
        simp only [cst] at h5
        rcases a4 x c' l2 h6 hx2 with h7 | ⟨_, h7⟩
        · omega
        · exact h7
end Bp
end Batch
