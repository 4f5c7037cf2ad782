/-
  Plain mathematics: the least parting of jobs to batches: bounds, the table in rows, the reference's choice. Conditions: none.
-/
import Derived.Test.YtncmhinpjkkfkaaBatch
set_option linter.unusedVariables false
set_option linter.unusedSimpArgs false
namespace Batch
namespace Bp
variable {S : Bp}

theorem T_bound {Wt : Nat → Int} {C : Int} (hC : ∀ k s b, b ≤ 24 → S.w k s b ≤ (Wt k - Wt (k - s)) * C) (h0 : 0 ≤ Wt 0 * C) : ∀ b k c l, b ≤ 24 → S.T b k = some (c, l) → c ≤ Wt k * C
  | 0, k, c, l, _, h => by
    simp only [T] at h
    split at h
    · rename_i hk; subst hk; cases h; exact h0
    · cases h
  | b + 1, k, c, l, hb, h => by
    obtain ⟨s0, c0, l0, f⟩ := fold_found _ c l h
    have h1 := T_bound hC h0 b _ c0 l0 (by omega) f.at'
    have h2 := hC k s0 (b + 1) hb
    have e : Wt k * C = Wt (k - s0) * C + (Wt k - Wt (k - s0)) * C := by rw [Int.sub_mul]; omega
    have := f.cost
    omega

/-- Bounds of an entry and of what the fold has found so far. -/
theorem cst_bd {e : Ent} {B : Int} (h : ∀ c l, e = some (c, l) → 0 ≤ c ∧ c ≤ B) (hB : 0 ≤ B) : -1 ≤ cst e ∧ cst e ≤ B := by
  cases e with
  | none => simp only [cst]; omega
  | some v => obtain ⟨c, l⟩ := v; have := h c l rfl; simp only [cst]; omega

theorem fold_bd (hw : ∀ k s b, 0 ≤ S.w k s b) {Wt : Nat → Int} {C : Int} (hC : ∀ k s b, b ≤ 24 → S.w k s b ≤ (Wt k - Wt (k - s)) * C) (h0 : 0 ≤ Wt 0 * C) {b k s : Nat} {c : Int} {l : List Int} (hb : b + 1 ≤ 24)
    (h : S.fold (S.T b) k (b + 1) s = some (c, l)) : 0 ≤ c ∧ c ≤ Wt k * C := by
  obtain ⟨s0, c0, l0, f⟩ := fold_found _ c l h
  have h1 := T_bound hC h0 b _ c0 l0 (by omega) f.at'
  have h2 := hC k s0 (b + 1) hb
  have h3 := T_pos hw b _ c0 l0 f.at'
  have h4 := hw k s0 (b + 1)
  have e : Wt k * C = Wt (k - s0) * C + (Wt k - Wt (k - s0)) * C := by rw [Int.sub_mul]; omega
  have := f.cost
  omega

/-- The table in rows, as far as place q, where v is. -/
def tabL (S : Bp) (N q : Nat) (v : Int) : List Int := (List.range (N * N)).map fun (p : Nat) => if p < q then cst (S.T (p % N) (p / N)) else if p = q then v else -1
theorem tabL_len (S : Bp) (N q : Nat) (v : Int) : (tabL S N q v).length = N * N := by simp [tabL]
theorem tabL_set {N q : Nat} {v : Int} (u : Int) (hq : q < N * N) : (tabL S N q v).set q u = tabL S N q u := by
  refine List.ext_getElem (by simp [tabL]) fun p h1 h2 => ?_
  rw [List.getElem_set]
  simp only [tabL, List.getElem_map, List.getElem_range]
  by_cases h : q = p
  · subst h; rw [if_pos rfl, if_neg (by omega), if_pos rfl]
  · rw [if_neg h]
    by_cases h3 : p < q
    · rw [if_pos h3, if_pos h3]
    · rw [if_neg h3, if_neg h3, if_neg (by omega), if_neg (by omega)]
theorem tabL_at {N q : Nat} {v : Int} (hq : q < N * N) : (tabL S N q v).getD q 0 = v := by
  rw [List.getD_eq_getElem?_getD, List.getElem?_eq_getElem (by rw [tabL_len]; exact hq)]
  simp [tabL]
theorem lin_div {N k b : Nat} (hb : b < N) : (k * N + b) / N = k ∧ (k * N + b) % N = b := by
  constructor
  · rw [Nat.mul_comm, Nat.mul_add_div (by omega), Nat.div_eq_of_lt hb, Nat.add_zero]
  · rw [Nat.mul_comm, Nat.mul_add_mod, Nat.mod_eq_of_lt hb]
theorem tabL_get {N q k b : Nat} {v : Int} (hb : b < N) (hq : k * N + b < q) (hN : k * N + b < N * N) : (tabL S N q v).getD (k * N + b) 0 = cst (S.T b k) := by
  rw [List.getD_eq_getElem?_getD, List.getElem?_eq_getElem (by rw [tabL_len]; exact hN)]
  simp only [tabL, List.getElem_map, List.getElem_range, Option.getD_some]
  rw [if_pos hq, (lin_div hb).1, (lin_div hb).2]
theorem tabL_skip {N : Nat} {q q' : Nat} {v : Int} (hq : q < q') (hv : v = cst (S.T (q % N) (q / N))) (h : ∀ p, q < p → p < q' → cst (S.T (p % N) (p / N)) = -1) : tabL S N q v = tabL S N q' (-1) := by
  refine List.ext_getElem (by simp [tabL]) fun p h1 h2 => ?_
  simp only [tabL, List.getElem_map, List.getElem_range]
  by_cases h3 : p < q
  · rw [if_pos h3, if_pos (by omega)]
  · rw [if_neg h3]
    by_cases h4 : p = q
    · subst h4; rw [if_pos rfl, if_pos hq]; exact hv
    · rw [if_neg h4]
      by_cases h5 : p < q'
      · rw [if_pos h5, h p (by omega) h5]
      · rw [if_neg h5]; split <;> rfl
theorem tabL_next {N k b : Nat} (hb : b < N) : tabL S N (k * N + b) (cst (S.T b k)) = tabL S N (k * N + (b + 1)) (-1) := by
  refine tabL_skip (by omega) (by rw [(lin_div hb).1, (lin_div hb).2]) fun p h1 h2 => by omega
/-- From the end of a row to the next one. -/
theorem tabL_row {N k : Nat} (hk : k + 1 ≤ N) : tabL S N (k * N + (k + 1)) (-1) = tabL S N ((k + 1) * N + 1) (-1) := by
  have hm : (k + 1) * N = k * N + N := by rw [Nat.add_mul, Nat.one_mul]
  have key : ∀ p, k * N + (k + 1) ≤ p → p < (k + 1) * N + 1 → cst (S.T (p % N) (p / N)) = -1 := by
    intro p h1 h2
    by_cases h : p < (k + 1) * N
    · obtain ⟨b, rfl⟩ : ∃ b, p = k * N + b := ⟨p - k * N, by omega⟩
      rw [(lin_div (by omega)).1, (lin_div (by omega)).2, S.T_big b k (by omega)]; rfl
    · have e : p = (k + 1) * N + 0 := by omega
      rw [e, (lin_div (by omega)).1, (lin_div (by omega)).2, S.T_none (k + 1) (by omega)]; rfl
  exact tabL_skip (by omega) (key _ (by omega) (by omega)).symm fun p h1 h2 => key p (by omega) h2
theorem tabL_start {N : Nat} (hN : 2 ≤ N) : (List.replicate (N * N) (-1 : Int)).set 0 0 = tabL S N (1 * N + 1) (-1) := by
  refine List.ext_getElem (by simp [tabL]) fun p h1 h2 => ?_
  rw [List.getElem_set]
  simp only [tabL, List.getElem_map, List.getElem_range, List.getElem_replicate]
  rw [Nat.one_mul]
  by_cases h0 : 0 = p
  · subst h0; rw [if_pos rfl, if_pos (by omega), Nat.zero_mod, Nat.zero_div]; simp [T, cst]
  · rw [if_neg h0]
    by_cases h : p < N + 1
    · rw [if_pos h]
      by_cases hp : p < N
      · rw [Nat.mod_eq_of_lt hp, Nat.div_eq_of_lt hp, S.T_zero p (by omega)]; rfl
      · have e : p = 1 * N + 0 := by omega
        rw [e, (lin_div (by omega)).1, (lin_div (by omega)).2, S.T_none 1 (by omega)]; rfl
    · rw [if_neg h]; split <;> rfl

theorem nxt_append {k s : Nat} : ∀ (bs cs : List Nat), nxt S k s (bs ++ cs) = nxt S k s bs ++ nxt S k s cs
  | [], cs => rfl
  | b :: bs, cs => by
    show (if hit S k b s then (b - 1) :: nxt S k s (bs ++ cs) else nxt S k s (bs ++ cs)) = (if hit S k b s then (b - 1) :: nxt S k s bs else nxt S k s bs) ++ nxt S k s cs
    rw [nxt_append bs cs]
    split <;> rfl
theorem nxt_one {k s b : Nat} : nxt S k s [b] = if hit S k b s then [b - 1] else [] := rfl
theorem nxt_take {k s i : Nat} {bs : List Nat} (h : i < bs.length) : nxt S k s (bs.take (i + 1)) = nxt S k s (bs.take i) ++ if hit S k bs[i] s then [bs[i] - 1] else [] := by
  rw [List.take_succ_eq_append_getElem h, nxt_append, nxt_one]

/-- The reference's choice: k jobs are left, those numbers of batches, the list so far. -/
def Ch (S : Bp) (fin : List Int) (k : Nat) (bs : List Nat) (out : List Int) : Prop :=
  Ok S k bs ∧ ∃ m, IsMin m (bs.map fun b => szs (S.T b k)) ∧ m.reverse ++ out = fin

theorem Ch.next (hw : ∀ k s b, 0 ≤ S.w k s b) {fin : List Int} {k : Nat} {bs : List Nat} {out : List Int} (h : Ch S fin k bs out) (hk : k ≠ 0) :
    ∃ s0, 1 ≤ s0 ∧ s0 ≤ k ∧ (∀ s1, 1 ≤ s1 → s1 < s0 → nxt S k s1 bs = []) ∧ nxt S k s0 bs ≠ [] ∧ Ch S fin (k - s0) (nxt S k s0 bs) ((s0 : Int) :: out) := by
  obtain ⟨h1, m, h2, h3⟩ := h
  obtain ⟨s0, a1, a2, a3, a4, a5, m', rfl, a7⟩ := step hw hk h1 h2
  refine ⟨s0, a1, a2, a3, a4, a5, m', a7, ?_⟩
  rw [← h3]; simp
theorem Ch.done {fin : List Int} {bs : List Nat} {out : List Int} (h : Ch S fin 0 bs out) : out = fin := by
  obtain ⟨h1, m, h2, h3⟩ := h
  obtain ⟨b, hb, hm⟩ := List.mem_map.1 h2.1
  have h4 := h1.2 b hb
  have : b = 0 := by
    by_cases e : b = 0
    · exact e
    · exact absurd (S.T_zero b e) h4
  subst this
  have : m = [] := by rw [← hm]; simp [T, szs]
  subst this
  simpa using h3
theorem Ch.mem {fin : List Int} {k : Nat} {bs : List Nat} {out : List Int} (h : Ch S fin k bs out) {b : Nat} (hb : b ∈ bs) : b ≤ k ∧ (k ≠ 0 → b ≠ 0) := by
  have h4 := h.1.2 b hb
  constructor
  · by_cases e : b ≤ k
    · exact e
    · exact absurd (S.T_big b k (by omega)) h4
  · rintro hk rfl
    exact h4 (S.T_none k hk)
theorem Ch.start (hw : ∀ k s b, 0 ≤ S.w k s b) (hm : 1 ≤ S.most) {n : Nat} (hn : n ≠ 0) : Ch S (szs (best S n (n + 1))).reverse n (some' S n (least S n (n + 1)) (n + 1)) [] := by
  obtain ⟨a, b, _, _⟩ := Batch.Bp.start hw hm hn
  exact ⟨a, _, b, by simp⟩
theorem some_len {n : Nat} {c : Int} : ∀ m, (some' S n c m).length ≤ m
  | 0 => Nat.le_refl _
  | m + 1 => by
    have := some_len (n := n) (c := c) m
    simp only [some']
    split
    · simp; omega
    · omega
theorem nxt_len {k s : Nat} : ∀ bs : List Nat, (nxt S k s bs).length ≤ bs.length
  | [] => Nat.le_refl _
  | b :: bs => by
    have := nxt_len (k := k) (s := s) bs
    simp only [nxt]
    split <;> simp <;> omega
/-- The sizes of an entry. -/
theorem szs_len : ∀ b k, (szs (S.T b k)).length ≤ b
  | 0, k => by simp only [T]; split <;> simp [szs]
  | b + 1, k => by
    cases h : S.T (b + 1) k with
    | none => simp [szs]
    | some v =>
      obtain ⟨c, l⟩ := v
      obtain ⟨s0, c0, l0, f⟩ := fold_found _ c l h
      have := szs_len b (k - s0)
      rw [f.at'] at this
      show l.length ≤ b + 1
      rw [f.list]
      simpa [szs] using this
end Bp
end Batch
