/-
  Walks: the least parting to batches: the program's table of rows of structs. Conditions: none.
-/
import Derived.Test.YtncmhinpjkkfkaaK63
set_option linter.unusedVariables false
set_option linter.unusedSimpArgs false
namespace Go.Proofs.Ytncmhinpjkkfkaa
open Go Go.RowKit

/-- A list of sizes as a value: nil, or a row at block B or behind it. -/
def SzA (w : World) (B : Nat) (v : Value) (l : List Int) : Prop := (l = [] ∧ v = .slice none 0 0) ∨ ∃ G c, v = .slice (some ⟨G, 0, none⟩) l.length c ∧ l ≠ [] ∧ Rw w G c l ∧ B ≤ G
theorem SzA.sz {w : World} {B : Nat} {v : Value} {l : List Int} (h : SzA w B v l) : Sz w v l := by
  rcases h with h | ⟨G, c, h1, h2, h3, _⟩
  · exact .inl h
  · exact .inr ⟨G, c, h1, h2, h3⟩
theorem SzA.form {w : World} {B : Nat} {v : Value} {l : List Int} (h : SzA w B v l) : ∃ A c, v = .slice A l.length c := by
  obtain ⟨A, c, e, _⟩ := h.sz.form; exact ⟨A, c, e⟩
theorem SzA.nil (w : World) (B : Nat) : SzA w B (.slice none 0 0) [] := .inl ⟨rfl, rfl⟩
theorem SzA.below {w w' : World} {B : Nat} {v : Value} {l : List Int} (h : SzA w B v l) (hb : Below w.heap.size w w') : SzA w' B v l := by
  rcases h with h | ⟨G, c, h1, h2, h3, h4⟩
  · exact .inl h
  · exact .inr ⟨G, c, h1, h2, h3.below hb h3.lt, h4⟩
theorem SzA.low {w : World} {B : Nat} {v : Value} {l : List Int} (h : SzA w B v l) {a : Addr} (ha : a.block < B) (u : Value) : SzA (w.setCell a u) B v l := by
  rcases h with h | ⟨G, c, h1, h2, h3, h4⟩
  · exact .inl h
  · exact .inr ⟨G, c, h1, h2, h3.other (by omega) u, h4⟩
theorem SzA.far {w : World} {B : Nat} {v : Value} {l : List Int} (h : SzA w B v l) {a : Addr} (ha : w.heap.size ≤ a.block) (u : Value) : SzA (w.setCell a u) B v l := by
  rcases h with h | ⟨G, c, h1, h2, h3, h4⟩
  · exact .inl h
  · exact .inr ⟨G, c, h1, h2, h3.other (by have := h3.lt; omega) u, h4⟩
theorem SzA.mk {w : World} {B G c : Nat} {l : List Int} (h : Rw w G c l) (hB : B ≤ G) {m : Nat} (hm : l.length = m) (h0 : l ≠ []) : SzA w B (.slice (some ⟨G, 0, none⟩) m c) l := by
  subst hm; exact .inr ⟨G, c, rfl, h0, h, hB⟩

/-- Three cells of an entry. -/
def Ent3 (w : World) (B R b : Nat) (e : Batch.Ent) : Prop :=
  w.cell? ⟨R, b * 3, none⟩ = some (.bool (eb e)) ∧ w.cell? ⟨R, b * 3 + 1, none⟩ = some (.int .i64 (ec e)) ∧ ∃ sv, w.cell? ⟨R, b * 3 + 2, none⟩ = some sv ∧ SzA w B sv (Batch.szs e)

/-- The outer row: the first k of its N slices are of rows of their own. -/
def OutR (w : World) (GO N k : Nat) (R : Nat → Nat) : Prop :=
  ∃ vs : List Value, Row w GO 91 N vs ∧ vs.length = N ∧ ∀ i, i < k → vs[i]? = some (.slice (some ⟨R i, 0, none⟩) N N)
/-- A row of entries. -/
def RowE (w : World) (B G N : Nat) (E : Nat → Batch.Ent) : Prop :=
  ∃ cs : List Value, Row w G 93 (N * 3) cs ∧ cs.length = N * 3 ∧ ∀ b, b < N → cs[b * 3]? = some (.bool (eb (E b))) ∧ cs[b * 3 + 1]? = some (.int .i64 (ec (E b))) ∧ ∃ sv, cs[b * 3 + 2]? = some sv ∧ SzA w B sv (Batch.szs (E b))

theorem RowE.lt {w : World} {B G N : Nat} {E : Nat → Batch.Ent} (h : RowE w B G N E) : G < w.heap.size := by obtain ⟨cs, h1, _⟩ := h; exact h1.lt
theorem RowE.below {w w' : World} {B G N : Nat} {E : Nat → Batch.Ent} (h : RowE w B G N E) (hb : Below w.heap.size w w') : RowE w' B G N E := by
  obtain ⟨cs, h1, h2, h3⟩ := h
  refine ⟨cs, h1.below hb h1.lt, h2, fun b hb' => ?_⟩
  obtain ⟨a, c, sv, d, e⟩ := h3 b hb'
  exact ⟨a, c, sv, d, e.below hb⟩
theorem RowE.other {w : World} {B G N : Nat} {E : Nat → Batch.Ent} (h : RowE w B G N E) {a : Addr} (ha : G ≠ a.block) (hl : a.block < B) (u : Value) : RowE (w.setCell a u) B G N E := by
  obtain ⟨cs, h1, h2, h3⟩ := h
  refine ⟨cs, h1.other ha u, h2, fun b hb' => ?_⟩
  obtain ⟨a, c, sv, d, e⟩ := h3 b hb'
  exact ⟨a, c, sv, d, e.low hl u⟩
theorem RowE.far {w : World} {B G N : Nat} {E : Nat → Batch.Ent} (h : RowE w B G N E) {a : Addr} (ha : G ≠ a.block) (hf : ∀ v l, SzA w B v l → SzA (w.setCell a v) B v l ∨ True) (hs : ∀ sv l, SzA w B sv l → ∀ u, SzA (w.setCell a u) B sv l) (u : Value) : RowE (w.setCell a u) B G N E := by
  obtain ⟨cs, h1, h2, h3⟩ := h
  refine ⟨cs, h1.other ha u, h2, fun b hb' => ?_⟩
  obtain ⟨a, c, sv, d, e⟩ := h3 b hb'
  exact ⟨a, c, sv, d, hs _ _ e u⟩
theorem RowE.ent {w : World} {B G N : Nat} {E : Nat → Batch.Ent} (h : RowE w B G N E) {b : Nat} (hb : b < N) : Ent3 w B G b (E b) := by
  obtain ⟨cs, h1, h2, h3⟩ := h
  have key : ∀ j v, cs[j]? = some v → w.cell? ⟨G, j, none⟩ = some v := fun j v hv => by
    obtain ⟨hj, rfl⟩ := List.getElem?_eq_some_iff.1 hv
    exact h1.cell j hj
  obtain ⟨a, c, sv, d, e⟩ := h3 b hb
  exact ⟨key _ _ a, key _ _ c, sv, key _ _ d, e⟩
theorem RowE.free {w : World} {B G N : Nat} {E : Nat → Batch.Ent} (h : RowE w B G N E) (j : Nat) : w.frozen? ⟨G, j, none⟩ = false := by
  obtain ⟨cs, h1, _⟩ := h; exact h1.free j
/-- An entry is laid anew. -/
theorem RowE.put {w : World} {B G N : Nat} {E : Nat → Batch.Ent} (h : RowE w B G N E) (hG : G < B) {b : Nat} (hb : b < N) (e : Batch.Ent) {sv : Value} (hs : SzA w B sv (Batch.szs e)) :
    RowE (((w.setCell ⟨G, b * 3, none⟩ (.bool (eb e))).setCell ⟨G, b * 3 + 1, none⟩ (.int .i64 (ec e))).setCell ⟨G, b * 3 + 2, none⟩ sv) B G N (fun j => if j = b then e else E j) := by
  obtain ⟨cs, h1, h2, h3⟩ := h
  refine ⟨((cs.set (b * 3) (.bool (eb e))).set (b * 3 + 1) (.int .i64 (ec e))).set (b * 3 + 2) sv, ((h1.set _ _).set _ _).set _ _, by simpa using h2, fun j hj => ?_⟩
  by_cases hjb : j = b
  · subst hjb
    simp only [if_true]
    refine ⟨?_, ?_, sv, ?_, ((hs.low (by exact hG) _).low (by exact hG) _).low (by exact hG) _⟩
    · rw [List.getElem?_set_ne (by omega), List.getElem?_set_ne (by omega), List.getElem?_set_self (by omega)]
    · rw [List.getElem?_set_ne (by omega), List.getElem?_set_self (by simp; omega)]
    · rw [List.getElem?_set_self (by simp; omega)]
  · simp only [hjb, if_false]
    obtain ⟨a, c, sv', d, e'⟩ := h3 j hj
    refine ⟨?_, ?_, sv', ?_, ((e'.low (by exact hG) _).low (by exact hG) _).low (by exact hG) _⟩
    · rw [List.getElem?_set_ne (by omega), List.getElem?_set_ne (by omega), List.getElem?_set_ne (by omega)]; exact a
    · rw [List.getElem?_set_ne (by omega), List.getElem?_set_ne (by omega), List.getElem?_set_ne (by omega)]; exact c
    · rw [List.getElem?_set_ne (by omega), List.getElem?_set_ne (by omega), List.getElem?_set_ne (by omega)]; exact d
/-- The first entry is there, of no cost and no sizes. -/
theorem RowE.start {w : World} {B G N : Nat} (h : RowE w B G N (fun _ => none)) (hG : G < B) (hN : 0 < N) :
    RowE (w.setCell ⟨G, 0, none⟩ (.bool true)) B G N (fun j => if j = 0 then some (0, []) else none) := by
  obtain ⟨cs, h1, h2, h3⟩ := h
  refine ⟨cs.set 0 (.bool true), h1.set _ _, by simpa using h2, fun j hj => ?_⟩
  obtain ⟨a, c, sv', d, e'⟩ := h3 j hj
  by_cases hjb : j = 0
  · subst hjb
    simp only [if_true]
    refine ⟨?_, ?_, sv', ?_, ?_⟩
    · rw [Nat.zero_mul, List.getElem?_set_self (by omega)]; rfl
    · rw [List.getElem?_set_ne (by omega)]; exact c
    · rw [List.getElem?_set_ne (by omega)]; exact d
    · exact e'.low (by exact hG) _
  · simp only [hjb, if_false]
    refine ⟨?_, ?_, sv', ?_, e'.low (by exact hG) _⟩
    · rw [List.getElem?_set_ne (by omega)]; exact a
    · rw [List.getElem?_set_ne (by omega)]; exact c
    · rw [List.getElem?_set_ne (by omega)]; exact d
theorem RowE.congr {w : World} {B G N : Nat} {E E' : Nat → Batch.Ent} (h : RowE w B G N E) (he : E = E') : RowE w B G N E' := he ▸ h
theorem RowE.raise {w : World} {B B' G N : Nat} (h : RowE w B G N (fun _ => none)) : RowE w B' G N (fun _ => none) := by
  obtain ⟨cs, h1, h2, h3⟩ := h
  refine ⟨cs, h1, h2, fun j hj => ?_⟩
  obtain ⟨a, c, sv', d, e'⟩ := h3 j hj
  refine ⟨a, c, sv', d, ?_⟩
  rcases e' with e' | ⟨_, _, _, e', _⟩
  · exact .inl e'
  · exact absurd rfl e'

theorem OutR.lt {w : World} {GO N k : Nat} {R : Nat → Nat} (h : OutR w GO N k R) : GO < w.heap.size := by obtain ⟨vs, h1, _⟩ := h; exact h1.lt
theorem OutR.below {w w' : World} {GO N k : Nat} {R : Nat → Nat} (h : OutR w GO N k R) (hb : Below w.heap.size w w') : OutR w' GO N k R := by
  obtain ⟨vs, h1, h2⟩ := h; exact ⟨vs, h1.below hb h1.lt, h2⟩
theorem OutR.other {w : World} {GO N k : Nat} {R : Nat → Nat} (h : OutR w GO N k R) {a : Addr} (ha : GO ≠ a.block) (u : Value) : OutR (w.setCell a u) GO N k R := by
  obtain ⟨vs, h1, h2⟩ := h; exact ⟨vs, h1.other ha u, h2⟩
theorem OutR.get {w : World} {GO N k : Nat} {R : Nat → Nat} (h : OutR w GO N k R) {i : Nat} (hi : i < k) : w.cell? ⟨GO, i, none⟩ = some (.slice (some ⟨R i, 0, none⟩) N N) := by
  obtain ⟨vs, h1, _, h3⟩ := h
  obtain ⟨hj, e⟩ := List.getElem?_eq_some_iff.1 (h3 i hi)
  rw [h1.cell i hj, e]
theorem OutR.any {w : World} {GO N k : Nat} {R : Nat → Nat} (h : OutR w GO N k R) {i : Nat} (hi : i < N) : (∃ v, w.cell? ⟨GO, i, none⟩ = some v) ∧ w.frozen? ⟨GO, i, none⟩ = false := by
  obtain ⟨vs, h1, h2, _⟩ := h
  exact ⟨⟨_, h1.cell i (by omega)⟩, h1.free i⟩
theorem OutR.put {w : World} {GO N k : Nat} {R : Nat → Nat} (h : OutR w GO N k R) (hk : k < N) (G : Nat) : OutR (w.setCell ⟨GO, k, none⟩ (.slice (some ⟨G, 0, none⟩) N N)) GO N (k + 1) (fun j => if j = k then G else R j) := by
  obtain ⟨vs, h1, h2, h3⟩ := h
  refine ⟨vs.set k (.slice (some ⟨G, 0, none⟩) N N), h1.set _ _, by simpa using h2, fun i hi => ?_⟩
  by_cases e : i = k
  · subst e; rw [List.getElem?_set_self (by omega)]; simp only [if_true]
  · rw [List.getElem?_set_ne (by omega)]; simp only [e, if_false]; exact h3 i (by omega)

/-- make([]batches, N). -/
theorem wp_make3 {P : Program} {w : World} {ops : Array Oper} {rest : List Oper} {o : Oper} {a : Act} {Q : Exit → Act → World → Prop}
    (hg : o.guard = none) (l : Operand) (t : TypeId) (hop : o.op = Op.makeSlice t l l) (e : TypeId) (z : Value) (by' : Nat)
    (h1 : P.underlying t = some (.slice e)) (h2 : (P.info? e).map (fun i => (i.zero, i.size, i.bytes)) = some (some z, 3, by')) (x y u : Value) (hz : z.cells = #[x, y, u])
    (n : Nat) (kl : IntKind) (L : Int) (hl : a.eval l = .int kl L) (hL : L = (n : Int)) (hb : by' * n ≤ 281474976710656) (hn : n * 3 ≤ maxLen)
    (hK : ∀ w' cs, Row w' w.heap.size e (n * 3) cs → cs.length = n * 3 → (∀ b, b < n → cs[b * 3]? = some x ∧ cs[b * 3 + 1]? = some y ∧ cs[b * 3 + 2]? = some u) → Below w.heap.size w w' → wpList P ops Q rest (a.put o.dst (.slice (some ⟨w.heap.size, 0, none⟩) n n)) w') :
    wpList P ops Q (o :: rest) a w := by
  obtain ⟨i0, hi, hz0, hz1, hz2⟩ := info_parts h2
  refine wpList_make_full w hg l l t hop w.heap.size e i0 z 3 h1 hi hz0 hz1 kl kl L L n hl hl hL hL (by rw [hz2]; exact hb) (by omega) (Nat.le_refl _) fun w' h hgr => ?_
  rw [hz] at h
  obtain ⟨q1, q2⟩ := h
  rcases q2 with ⟨q3, _⟩ | ⟨g', cap, cur, hv, hbb, hh, hnn, hmm, hss, htt⟩
  · cases q3
  · injection hv with e1 _ e3
    injection e1 with e1
    injection e1 with e1 _ _
    subst e1 e3
    refine hK w' (madeCells #[x, y, u] (n * 3)).toList ⟨cur, hh, hss, by simp [madeCells], hn, ?_⟩ (by simp [madeCells]) (fun b hb' => ?_) (below_of_grown hgr)
    · rw [q1]; exact htt
    · have m0 : b * 3 % 3 = 0 := by omega
      have m1 : (b * 3 + 1) % 3 = 1 := by omega
      have m2 : (b * 3 + 2) % 3 = 2 := by omega
      refine ⟨?_, ?_, ?_⟩
      · rw [Array.getElem?_toList, madeCells, Array.getElem?_map, Array.getElem?_range, if_pos (by omega)]; simp
      · rw [Array.getElem?_toList, madeCells, Array.getElem?_map, Array.getElem?_range, if_pos (by omega)]; simp [m1]
      · rw [Array.getElem?_toList, madeCells, Array.getElem?_map, Array.getElem?_range, if_pos (by omega)]; simp [m2]
theorem rowE_made {w : World} {B G N : Nat} {cs : List Value} (h : Row w G 93 (N * 3) cs) (hl : cs.length = N * 3) (hc : ∀ b, b < N → cs[b * 3]? = some (.bool false) ∧ cs[b * 3 + 1]? = some (.int .i64 0) ∧ cs[b * 3 + 2]? = some (.slice none 0 0)) : RowE w B G N (fun _ => none) :=
  ⟨cs, h, hl, fun b hb => by
    obtain ⟨a, c, d⟩ := hc b hb
    exact ⟨a, c, _, d, SzA.nil _ _⟩⟩

/-- What the entries are where place (k, b) is worked at and holds v. -/
def Es (S : Batch.Bp) (k b : Nat) (v : Batch.Ent) (i j : Nat) : Batch.Ent := if i < k ∨ (i = k ∧ j < b) then S.T j i else if i = k ∧ j = b then v else none
theorem Es_put {S : Batch.Bp} {k b : Nat} {v e : Batch.Ent} : (fun j => if j = b then e else Es S k b v k j) = Es S k b e k := by
  funext j
  unfold Es
  by_cases h : j = b
  · subst h; rw [if_pos rfl, if_neg (by omega), if_pos ⟨rfl, rfl⟩]
  · rw [if_neg h]
    by_cases h2 : j < b
    · rw [if_pos (by omega), if_pos (by omega)]
    · rw [if_neg (by omega), if_neg (by omega), if_neg (by omega), if_neg (by omega)]
theorem Es_ne {S : Batch.Bp} {k b i : Nat} {v e : Batch.Ent} (h : i ≠ k) : Es S k b v i = Es S k b e i := by
  funext j
  unfold Es
  by_cases h2 : i < k
  · rw [if_pos (by omega), if_pos (by omega)]
  · rw [if_neg (by omega), if_neg (by omega), if_neg (by omega), if_neg (by omega)]
theorem Es_at {S : Batch.Bp} {k b : Nat} {v : Batch.Ent} : Es S k b v k b = v := by
  unfold Es; rw [if_neg (by omega), if_pos ⟨rfl, rfl⟩]
theorem Es_old {S : Batch.Bp} {k b i j : Nat} {v : Batch.Ent} (h : i < k) : Es S k b v i j = S.T j i := by
  unfold Es; rw [if_pos (.inl h)]
theorem Es_next {S : Batch.Bp} {k b : Nat} : Es S k b (S.T b k) = Es S k (b + 1) none := by
  funext i j
  unfold Es
  by_cases h : i < k ∨ (i = k ∧ j < b)
  · rw [if_pos h, if_pos (by omega)]
  · rw [if_neg h]
    by_cases h2 : i = k ∧ j = b
    · obtain ⟨rfl, rfl⟩ := h2
      rw [if_pos ⟨rfl, rfl⟩, if_pos (by omega)]
    · rw [if_neg h2, if_neg (by omega)]
      by_cases h3 : i = k ∧ j = b + 1
      · rw [if_pos h3]
      · rw [if_neg h3]
theorem Es_row {S : Batch.Bp} {k : Nat} : Es S k (k + 1) none = Es S (k + 1) 1 none := by
  funext i j
  unfold Es
  by_cases h : i < k ∨ (i = k ∧ j < k + 1)
  · rw [if_pos h, if_pos (by omega)]
  · rw [if_neg h]
    have e1 : (if i = k ∧ j = k + 1 then (none : Batch.Ent) else none) = none := by split <;> rfl
    rw [e1]
    by_cases h2 : i = k
    · rw [if_pos (by omega), S.T_big j i (by omega)]
    · by_cases h3 : i = k + 1 ∧ j < 1
      · rw [if_pos (.inr h3)]
        obtain ⟨rfl, h3⟩ := h3
        have : j = 0 := by omega
        subst this
        rw [S.T_none _ (by omega)]
      · rw [if_neg (by omega)]; split <;> rfl
theorem Es_start {S : Batch.Bp} : (fun (i j : Nat) => if i = 0 then (if j = 0 then (some (0, []) : Batch.Ent) else none) else none) = Es S 1 1 none := by
  funext i j
  unfold Es
  by_cases h : i = 0
  · subst h
    by_cases h2 : j = 0
    · subst h2; simp [Batch.Bp.T]
    · simp [h2, S.T_zero j h2]
  · rw [if_neg h]
    by_cases h3 : i = 1 ∧ j < 1
    · rw [if_pos (.inr h3)]
      obtain ⟨rfl, h3⟩ := h3
      have : j = 0 := by omega
      subst this
      rw [S.T_none _ (by omega)]
    · rw [if_neg (by omega)]; split <;> rfl
theorem Es_full {S : Batch.Bp} {n : Nat} {j : Nat} : Es S (n + 1) 1 none n j = S.T j n := Es_old (by omega)

/-- The table while it is made: k of its rows. -/
structure Mt (U : Nat) (w : World) (GO N k : Nat) (R : Nat → Nat) : Prop where
  o : OutR w GO N k R
  r : ∀ i, i < k → RowE w 0 (R i) N (fun _ => none)
  gt : ∀ i, i < k → GO < R i
  inj : ∀ i j, i < j → j < k → R i < R j
  u : U ≤ GO
theorem Mt.keep {U : Nat} {w w' : World} {GO N k : Nat} {R : Nat → Nat} (h : Mt U w GO N k R) (hb : Below w.heap.size w w') : Mt U w' GO N k R :=
  ⟨h.o.below hb, fun i hi => (h.r i hi).below hb, h.gt, h.inj, h.u⟩
theorem RowE.past {w : World} {G N : Nat} (h : RowE w 0 G N (fun _ => none)) {a : Addr} (ha : G ≠ a.block) (u : Value) : RowE (w.setCell a u) 0 G N (fun _ => none) := by
  obtain ⟨cs, h1, h2, h3⟩ := h
  refine ⟨cs, h1.other ha u, h2, fun j hj => ?_⟩
  obtain ⟨a, c, sv', d, e'⟩ := h3 j hj
  refine ⟨a, c, sv', d, ?_⟩
  rcases e' with e' | ⟨_, _, _, e', _⟩
  · exact .inl e'
  · exact absurd rfl e'
/-- A new row, put into the table. -/
theorem Mt.put {U : Nat} {w w1 : World} {GO N k : Nat} {R : Nat → Nat} (h : Mt U w GO N k R) (hk : k < N) (hr : RowE w1 0 w.heap.size N (fun _ => none)) (hb : Below w.heap.size w w1) :
    (∃ v, w1.cell? ⟨GO, k, none⟩ = some v) ∧ w1.frozen? ⟨GO, k, none⟩ = false ∧ Mt U (w1.setCell ⟨GO, k, none⟩ (.slice (some ⟨w.heap.size, 0, none⟩) N N)) GO N (k + 1) (fun j => if j = k then w.heap.size else R j) := by
  have hlt := h.o.lt
  have h1 := h.keep hb
  obtain ⟨a1, a2⟩ := h1.o.any hk
  have hRk : ∀ i, i < k → R i < w.heap.size := fun i hi => (h.r i hi).lt
  refine ⟨a1, a2, h1.o.put hk _, fun i hi => ?_, fun i hi => ?_, fun i j hij hj => ?_, h.u⟩
  · by_cases e : i = k
    · simp only [e, if_true]; exact hr.past (by show w.heap.size ≠ GO; omega) _
    · simp only [e, if_false]; exact (h1.r i (by omega)).past (by show R i ≠ GO; have := h.gt i (by omega); omega) _
  · by_cases e : i = k
    · simp only [e, if_true]; exact hlt
    · simp only [e, if_false]; exact h.gt i (by omega)
  · by_cases e : j = k
    · simp only [e, if_true, show i ≠ k by omega, if_false]; exact hRk i (by omega)
    · simp only [e, if_false, show i ≠ k by omega]; exact h.inj i j hij (by omega)

/-- The table of entries: rows below block B, the lists of sizes at B or behind it. -/
structure Bt (U B : Nat) (w : World) (GO N : Nat) (R : Nat → Nat) (E : Nat → Nat → Batch.Ent) : Prop where
  o : OutR w GO N N R
  r : ∀ i, i < N → RowE w B (R i) N (E i)
  gt : ∀ i, i < N → GO < R i
  inj : ∀ i j, i < N → j < N → i ≠ j → R i ≠ R j
  lt : ∀ i, i < N → R i < B
  u : U ≤ GO
  ob : GO < B
  sz : B ≤ w.heap.size
theorem Bt.keep {U B : Nat} {w w' : World} {GO N : Nat} {R : Nat → Nat} {E : Nat → Nat → Batch.Ent} (h : Bt U B w GO N R E) (hb : Below w.heap.size w w') : Bt U B w' GO N R E :=
  ⟨h.o.below hb, fun i hi => (h.r i hi).below hb, h.gt, h.inj, h.lt, h.u, h.ob, Nat.le_trans h.sz hb.size⟩
theorem Bt.dr {U B : Nat} {w w' : World} {GO N : Nat} {R : Nat → Nat} {E : Nat → Nat → Batch.Ent} (h : Bt U B w GO N R E) (hd : Dr w w') : Bt U B w' GO N R E := h.keep hd.below
theorem Bt.to {U B : Nat} {w : World} {GO N : Nat} {R : Nat → Nat} {E E' : Nat → Nat → Batch.Ent} (h : Bt U B w GO N R E) (e : E = E') : Bt U B w GO N R E' := e ▸ h
theorem Mt.done {U : Nat} {w : World} {GO N : Nat} {R : Nat → Nat} (h : Mt U w GO N N R) (hN : 0 < N) : Bt U w.heap.size w GO N R (fun _ _ => none) :=
  ⟨h.o, fun i hi => (h.r i hi).raise, h.gt, fun i j hi hj hne => by
    rcases Nat.lt_or_gt_of_ne hne with h1 | h1
    · have := h.inj i j h1 hj; omega
    · have := h.inj j i h1 hi; omega, fun i hi => (h.r i hi).lt, h.u, h.o.lt, Nat.le_refl _⟩
theorem Bt.first {U B : Nat} {w : World} {GO N : Nat} {R : Nat → Nat} (h : Bt U B w GO N R (fun _ _ => none)) (hN : 0 < N) {S : Batch.Bp} : Bt U B (w.setCell ⟨R 0, 0, none⟩ (.bool true)) GO N R (Es S 1 1 none) := by
  refine Bt.to ⟨h.o.other (by show GO ≠ R 0; have := h.gt 0 hN; omega) _, fun i hi => ?_, h.gt, h.inj, h.lt, h.u, h.ob, by have := h.sz; simpa using this⟩ (E := fun i j => if i = 0 then (if j = 0 then some (0, []) else none) else none) Es_start
  by_cases e : i = 0
  · subst e; simp only [if_true]; exact (h.r 0 hN).start (h.lt 0 hN) hN
  · simp only [e, if_false]; exact (h.r i hi).other (by show R i ≠ R 0; exact h.inj i 0 hi hN e) (h.lt 0 hN) _
theorem Bt.put {U B : Nat} {w : World} {GO N : Nat} {R : Nat → Nat} {S : Batch.Bp} {k b : Nat} {v : Batch.Ent} (h : Bt U B w GO N R (Es S k b v)) (hk : k < N) (hb : b < N) (e : Batch.Ent) {sv : Value} (hs : SzA w B sv (Batch.szs e)) :
    Bt U B (((w.setCell ⟨R k, b * 3, none⟩ (.bool (eb e))).setCell ⟨R k, b * 3 + 1, none⟩ (.int .i64 (ec e))).setCell ⟨R k, b * 3 + 2, none⟩ sv) GO N R (Es S k b e) := by
  have hg := h.gt k hk
  have hl := h.lt k hk
  refine ⟨((h.o.other (by show GO ≠ R k; omega) _).other (by show GO ≠ R k; omega) _).other (by show GO ≠ R k; omega) _, fun i hi => ?_, h.gt, h.inj, h.lt, h.u, h.ob, by have := h.sz; simpa using this⟩
  by_cases e' : i = k
  · subst e'
    exact ((h.r i hi).put hl hb e hs).congr Es_put
  · have hne := h.inj i k hi hk e'
    have := ((((h.r i hi).other (a := ⟨R k, b * 3, none⟩) hne hl (.bool (eb e))).other (a := ⟨R k, b * 3 + 1, none⟩) hne hl (.int .i64 (ec e))).other (a := ⟨R k, b * 3 + 2, none⟩) hne hl sv)
    exact this.congr (Es_ne e')
/-- What is kept where a block is written that the table does not know. -/
theorem Bt.past {U B : Nat} {w : World} {GO N : Nat} {R : Nat → Nat} {E : Nat → Nat → Batch.Ent} (h : Bt U B w GO N R E) {a : Addr} (h1 : GO ≠ a.block) (h2 : ∀ i, i < N → R i ≠ a.block) (hs : ∀ sv l, SzA w B sv l → ∀ u, SzA (w.setCell a u) B sv l) (u : Value) : Bt U B (w.setCell a u) GO N R E :=
  ⟨h.o.other h1 u, fun i hi => (h.r i hi).far (h2 i hi) (fun _ _ _ => .inr trivial) hs u, h.gt, h.inj, h.lt, h.u, h.ob, by have := h.sz; simpa using this⟩
end Go.Proofs.Ytncmhinpjkkfkaa
