/-
  Plain mathematics: the ways to give n jobs to m machines, in their order; the next way; the first least one. Conditions: none.
-/
set_option linter.unusedVariables false
set_option linter.unusedSimpArgs false
namespace Ways

/-- The t-th way: n digits of t, base m, the greatest first. -/
def digs (m : Nat) : Nat → Nat → List Int
  | 0, _ => []
  | n + 1, t => digs m n (t / m) ++ [((t % m : Nat) : Int)]

theorem digs_len (m : Nat) : ∀ n t, (digs m n t).length = n
  | 0, _ => rfl
  | n + 1, t => by simp [digs, digs_len m n]

theorem digs_push (m n P d : Nat) (hd : d < m) : digs m (n + 1) (P * m + d) = digs m n P ++ [(d : Int)] := by
  have h0 : 0 < m := by omega
  have e1 : (P * m + d) / m = P := by
    rw [Nat.mul_comm, Nat.mul_add_div h0, Nat.div_eq_of_lt hd, Nat.add_zero]
  have e2 : (P * m + d) % m = d := by
    rw [Nat.mul_comm, Nat.mul_add_mod, Nat.mod_eq_of_lt hd]
  simp only [digs, e1, e2]

theorem digs_mem {m : Nat} (h0 : 0 < m) : ∀ n t, ∀ x ∈ digs m n t, 0 ≤ x ∧ x < m
  | 0, _, x, h => by simp [digs] at h
  | n + 1, t, x, h => by
    simp only [digs, List.mem_append, List.mem_singleton] at h
    rcases h with h | rfl
    · exact digs_mem h0 n _ x h
    · have := Nat.mod_lt t h0; omega

theorem digs_zero (m : Nat) : ∀ n, digs m n 0 = List.replicate n 0
  | 0 => rfl
  | n + 1 => by
    rw [List.replicate_succ']
    simp only [digs, Nat.zero_div, Nat.zero_mod, digs_zero m n]
    rfl

/-- The state of the walk that makes a way the next one: the last r digits are at their greatest. -/
def Full (m n r t : Nat) : Prop := ∃ q, t = q * m ^ r + (m ^ r - 1) ∧ r ≤ n

theorem pow_pos' {m : Nat} (h0 : 0 < m) (r : Nat) : 0 < m ^ r := Nat.pow_pos h0

/-- digits of q * m^r + s, s < m^r: those of q, then those of s. -/
theorem digs_split {m : Nat} (h0 : 0 < m) (n q : Nat) : ∀ r s, s < m ^ r → digs m (n + r) (q * m ^ r + s) = digs m n q ++ digs m r s
  | 0, s, h => by
    have : s = 0 := by simpa using h
    subst this; simp [digs]
  | r + 1, s, h => by
    have e : q * m ^ (r + 1) + s = (q * m ^ r + s / m) * m + s % m := by
      rw [Nat.add_mul, Nat.pow_succ, Nat.mul_assoc, Nat.add_assoc, Nat.div_add_mod']
    have hs : s / m < m ^ r := by
      rw [Nat.div_lt_iff_lt_mul h0, ← Nat.pow_succ]; exact h
    rw [← Nat.add_assoc, e, digs_push m (n + r) _ _ (Nat.mod_lt _ h0), digs_split h0 n q r _ hs]
    simp [digs]

theorem digs_full {m : Nat} (h0 : 0 < m) : ∀ r, digs m r (m ^ r - 1) = List.replicate r ((m : Int) - 1)
  | 0 => rfl
  | r + 1 => by
    have hp := pow_pos' h0 r
    have e : m ^ (r + 1) - 1 = (m ^ r - 1) * m + (m - 1) := by
      rw [Nat.pow_succ, Nat.sub_mul, Nat.one_mul]
      have : m ≤ m ^ r * m := Nat.le_mul_of_pos_left m hp
      omega
    rw [e, digs_push m r _ _ (by omega), digs_full h0 r, List.replicate_succ']
    congr 2
    omega


theorem next_yes {m : Nat} (h0 : 0 < m) (k r q : Nat) (hd : q % m + 1 < m) :
    digs m (k + 1 + r) (q * m ^ r + (m ^ r - 1) + 1) = digs m k (q / m) ++ [((q % m + 1 : Nat) : Int)] ++ List.replicate r 0 := by
  have hp := pow_pos' h0 r
  have e : q * m ^ r + (m ^ r - 1) + 1 = (q + 1) * m ^ r + 0 := by rw [Nat.add_mul, Nat.one_mul]; omega
  have e2 : q + 1 = q / m * m + (q % m + 1) := by have := Nat.div_add_mod' q m; omega
  rw [e, digs_split h0 (k + 1) (q + 1) r 0 hp, e2, digs_push m k _ _ hd, digs_zero]

theorem next_no {m : Nat} (h0 : 0 < m) (r q : Nat) (hd : ¬ q % m + 1 < m) : q * m ^ r + (m ^ r - 1) = q / m * m ^ (r + 1) + (m ^ (r + 1) - 1) := by
  have hp := pow_pos' h0 r
  have hm := Nat.mod_lt q h0
  have e2 : q = q / m * m + (m - 1) := by have := Nat.div_add_mod' q m; omega
  have e3 : q * m ^ r = q / m * m ^ (r + 1) + (m - 1) * m ^ r := by
    conv => lhs; rw [e2]
    rw [Nat.add_mul, Nat.pow_succ, Nat.mul_assoc, Nat.mul_comm m (m ^ r)]
  have e4 : m ^ (r + 1) = (m - 1) * m ^ r + m ^ r := by
    rw [Nat.pow_succ, Nat.sub_mul, Nat.one_mul, Nat.mul_comm]
    have : m ^ r ≤ m * m ^ r := Nat.le_mul_of_pos_left _ h0
    omega
  omega

/-- What the machines have to do, after a way's jobs. -/
def endL (tm : Nat → Int → Int) (mc : Int) : Nat → List Int → Int
  | 0, _ => 0
  | k + 1, l => endL tm mc k l + if l.getD k 0 = mc then tm k mc else 0

theorem endL_congr (tm : Nat → Int → Int) (mc : Int) (l l' : List Int) : ∀ k, (∀ i, i < k → l.getD i 0 = l'.getD i 0) → endL tm mc k l = endL tm mc k l'
  | 0, _ => rfl
  | k + 1, h => by
    simp only [endL]
    rw [endL_congr tm mc l l' k (fun i hi => h i (by omega)), h k (by omega)]

theorem endL_bd {tm : Nat → Int → Int} {mc : Int} {l : List Int} {n : Nat} (h : ∀ i, i < n → 0 ≤ tm i mc ∧ tm i mc ≤ 10000) :
    ∀ k, k ≤ n → 0 ≤ endL tm mc k l ∧ endL tm mc k l ≤ 10000 * k
  | 0, _ => by simp [endL]
  | k + 1, hk => by
    have := endL_bd (l := l) h k (by omega)
    have := h k (by omega)
    simp only [endL]
    split <;> omega

def maxL (l : List Int) : Int := l.foldl max (l.getD 0 0)

/-- The last end of a way. -/
def ends (tm : Nat → Int → Int) (m k : Nat) (l : List Int) : List Int := (List.range m).map fun (i : Nat) => endL tm (i : Int) k l

/-- Which of the first T ways is the first least one. -/
def arg (cost : Nat → Int) : Nat → Nat
  | 0 => 0
  | T + 1 => if T = 0 then 0 else if cost T < cost (arg cost T) then T else arg cost T

theorem arg_lt (cost : Nat → Int) : ∀ T, 0 < T → arg cost T < T
  | 0, h => absurd h (by omega)
  | T + 1, _ => by
    simp only [arg]
    split
    · omega
    · split
      · omega
      · have := arg_lt cost T (by omega); omega

theorem ends_len (tm : Nat → Int → Int) (m k : Nat) (l : List Int) : (ends tm m k l).length = m := by simp [ends]

theorem ends_push (tm : Nat → Int → Int) (m k : Nat) (l : List Int) (d : Nat) (hd : d < m) (hl : l.getD k 0 = (d : Int)) :
    (ends tm m k l).set d ((ends tm m k l).getD d 0 + tm k (d : Int)) = ends tm m (k + 1) l := by
  refine List.ext_getElem (by simp [ends]) fun i h1 h2 => ?_
  rw [List.getElem_set]
  have hi : i < m := by simpa [ends] using h2
  simp only [ends, List.getElem_map, List.getElem_range, endL]
  rw [hl]
  by_cases h : d = i
  · subst h; simp [hd]
  · rw [if_neg h, if_neg (by omega)]; omega

theorem ends_get (tm : Nat → Int → Int) (m k : Nat) (l : List Int) (d : Nat) (hd : d < m) : (ends tm m k l).getD d 0 = endL tm (d : Int) k l := by
  simp [ends, hd]

theorem ends_zero (tm : Nat → Int → Int) (m : Nat) (l : List Int) : ends tm m 0 l = List.replicate m 0 := by
  refine List.ext_getElem (by simp [ends]) fun i h1 h2 => ?_
  simp [ends, endL]

theorem ends_congr (tm : Nat → Int → Int) (m k : Nat) (l l' : List Int) (h : ∀ i, i < k → l.getD i 0 = l'.getD i 0) : ends tm m k l = ends tm m k l' := by
  unfold ends
  refine List.map_congr_left fun i _ => endL_congr tm _ l l' k h
end Ways
namespace Ways

/-- What the machines have to do after the first i jobs of a way that begins with P. -/
def EN (tm : Nat → Int → Int) (m i P : Nat) : List Int := ends tm m i (digs m i P)

theorem EN_len (tm : Nat → Int → Int) (m i P : Nat) : (EN tm m i P).length = m := ends_len _ _ _ _

theorem getD_push (l : List Int) (a : Int) : (l ++ [a]).getD l.length 0 = a := by simp

theorem getD_left (l : List Int) (a : Int) (i : Nat) (h : i < l.length) : (l ++ [a]).getD i 0 = l.getD i 0 := by
  rw [List.getD_eq_getElem?_getD, List.getElem?_append_left h, ← List.getD_eq_getElem?_getD]

theorem EN_push (tm : Nat → Int → Int) (m i P d : Nat) (hd : d < m) : (EN tm m i P).set d ((EN tm m i P).getD d 0 + tm i (d : Int)) = EN tm m (i + 1) (P * m + d) := by
  unfold EN
  rw [digs_push m i P d hd]
  have hl := digs_len m i P
  have h1 : ends tm m i (digs m i P) = ends tm m i (digs m i P ++ [(d : Int)]) := ends_congr tm m i _ _ fun j hj => (getD_left _ _ _ (by omega)).symm
  rw [h1]
  refine ends_push tm m i _ d hd ?_
  conv => lhs; rw [← hl]
  rw [hl]
  have := getD_push (digs m i P) (d : Int)
  rw [hl] at this
  exact this

theorem getD_set' (l : List Int) (i j : Nat) (v : Int) (hi : i < l.length) : (l.set i v).getD j 0 = if i = j then v else l.getD j 0 := by
  rw [List.getD_eq_getElem?_getD, List.getElem?_set, List.getD_eq_getElem?_getD]
  by_cases h : i = j
  · subst h; simp [hi]
  · simp [h]

theorem set_self (l : List Int) (d : Nat) (h : d < l.length) : l.set d (l.getD d 0) = l := by
  rw [List.getD_eq_getElem?_getD, List.getElem?_eq_getElem h]; simp

theorem EN_pop (tm : Nat → Int → Int) (m i P d : Nat) (hd : d < m) : (EN tm m (i + 1) (P * m + d)).set d ((EN tm m (i + 1) (P * m + d)).getD d 0 - tm i (d : Int)) = EN tm m i P := by
  have hl := EN_len tm m i P
  rw [← EN_push tm m i P d hd, getD_set' _ _ _ _ (by omega), if_pos rfl, List.set_set, Int.add_sub_cancel, set_self _ _ (by omega)]

theorem EN_bd {tm : Nat → Int → Int} {m n : Nat} (h : ∀ i mc, i < n → mc < m → 0 ≤ tm i (mc : Int) ∧ tm i (mc : Int) ≤ 10000) (i P d : Nat) (hi : i ≤ n) (hd : d < m) :
    0 ≤ (EN tm m i P).getD d 0 ∧ (EN tm m i P).getD d 0 ≤ 10000 * i := by
  unfold EN
  rw [ends_get tm m i _ d hd]
  exact endL_bd (n := n) (fun j hj => h j d hj hd) i hi

theorem EN_zero (tm : Nat → Int → Int) (m P : Nat) : EN tm m 0 P = List.replicate m 0 := ends_zero tm m _

theorem way_push {m n i P d : Nat} {wl : List Int} (hl : wl.length = n) (hi : i < n) (hd : d < m) (h : wl.take i = digs m i P) : (wl.set i (d : Int)).take (i + 1) = digs m (i + 1) (P * m + d) := by
  rw [List.take_succ_eq_append_getElem (by simpa using (by omega : i < wl.length)), List.take_set_of_le (Nat.le_refl _), h, digs_push m i P d hd]
  simp

theorem way_less {m i P d : Nat} {wl : List Int} (hd : d < m) (h : wl.take (i + 1) = digs m (i + 1) (P * m + d)) : wl.take i = digs m i P := by
  have h1 : (wl.take (i + 1)).take i = wl.take i := by rw [List.take_take]; congr 1; omega
  rw [← h1, h, digs_push m i P d hd, List.take_append_of_le_length (by rw [digs_len]; exact Nat.le_refl _), List.take_of_length_le (by rw [digs_len]; exact Nat.le_refl _)]

/-- One more. -/
theorem arg_step (cost : Nat → Int) (T : Nat) (h : T ≠ 0) : arg cost (T + 1) = if cost T < cost (arg cost T) then T else arg cost T := by
  simp only [arg]; rw [if_neg h]
theorem arg_one (cost : Nat → Int) : arg cost 1 = 0 := rfl

theorem blk_next (m P d r : Nat) : (P * m + d) * m ^ r + m ^ r = (P * m + (d + 1)) * m ^ r := by
  have : P * m + (d + 1) = (P * m + d) + 1 := by omega
  rw [this, Nat.add_mul (P * m + d) 1, Nat.one_mul]
theorem blk_first (m P r : Nat) : P * m ^ (r + 1) = (P * m + 0) * m ^ r := by
  show P * m ^ (r + 1) = (P * m) * m ^ r
  rw [Nat.pow_succ, Nat.mul_assoc, Nat.mul_comm m]
theorem blk_last (m P r : Nat) : (P * m + m) * m ^ r = P * m ^ (r + 1) + m ^ (r + 1) := by
  rw [Nat.pow_succ, Nat.add_mul, Nat.mul_assoc, Nat.mul_comm m]
end Ways
