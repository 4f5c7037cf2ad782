/-
  Walks: the least round of changes: the program's function. Conditions: none.
-/
import Derived.Test.YtncmhinpjkkfkaaK35
set_option linter.unusedSimpArgs false
namespace Go.Proofs.Ytncmhinpjkkfkaa
open Go Go.RowKit
set_option linter.unusedVariables false

theorem Try.info22 : (Try.prog.info? 22).map (fun i => (i.zero, i.size, i.bytes)) = some (some (.slice none 0 0), 1, 24) := by kernel_rfl

theorem Row.at_ {w : World} {g c : Nat} {T : TypeId} {vs : List Value} (h : Row w g T c vs) {j : Nat} {v : Value} (hv : vs[j]? = some v) : w.cell? ⟨g, j, none⟩ = some v := by
  obtain ⟨hj, rfl⟩ := List.getElem?_eq_some_iff.1 hv
  exact h.cell j hj

def fillL (S : Sets.Chg) (x l : Nat) : List Int := (List.range S.n).map fun (j : Nat) => if j < l then S.R x j else 0
theorem fillL_len (S : Sets.Chg) (x l : Nat) : (fillL S x l).length = S.n := by simp [fillL]
theorem fillL_zero (S : Sets.Chg) (x : Nat) : fillL S x 0 = List.replicate S.n 0 := by
  refine List.ext_getElem (by simp [fillL]) fun p h1 h2 => ?_
  simp [fillL]
theorem fillL_set (S : Sets.Chg) (x l : Nat) (hl : l < S.n) : (fillL S x l).set l (S.R x l) = fillL S x (l + 1) := by
  refine List.ext_getElem (by simp [fillL]) fun p h1 h2 => ?_
  rw [List.getElem_set]
  simp only [fillL, List.getElem_map, List.getElem_range]
  by_cases h : l = p
  · subst h; rw [if_pos rfl, if_pos (by omega)]
  · rw [if_neg h]
    by_cases h3 : p < l
    · rw [if_pos h3, if_pos (by omega)]
    · rw [if_neg h3, if_neg (by omega)]
theorem fillL_get (S : Sets.Chg) (x j : Nat) (hj : j < S.n) : (fillL S x S.n).getD j 0 = S.R x j := by
  rw [List.getD_eq_getElem?_getD, List.getElem?_eq_getElem (by rw [fillL_len]; exact hj)]
  simp only [fillL, List.getElem_map, List.getElem_range, Option.getD_some]
  rw [if_pos hj]

/-- The rows of the table for the sets above D. -/
def TabI (S : Sets.Chg) (w : World) (GR L D : Nat) : Prop :=
  ∃ vs : List Value, Row w GR 22 (L + 1) vs ∧ vs.length = L + 1 ∧ ∀ d, D < d → d ≤ L → ∃ G, vs[d]? = some (.slice (some ⟨G, 0, none⟩) S.n S.n) ∧ Rw w G S.n (fillL S (L - d) S.n) ∧ GR < G

/-- The same, and the row of D as far as l. -/
def Fill (S : Sets.Chg) (w : World) (GR L D Gn l : Nat) : Prop :=
  ∃ vs : List Value, Row w GR 22 (L + 1) vs ∧ vs.length = L + 1 ∧ vs[D]? = some (.slice (some ⟨Gn, 0, none⟩) S.n S.n) ∧ GR < Gn ∧ Rw w Gn S.n (fillL S (L - D) l) ∧
    ∀ d, D < d → d ≤ L → ∃ G, vs[d]? = some (.slice (some ⟨G, 0, none⟩) S.n S.n) ∧ Rw w G S.n (fillL S (L - d) S.n) ∧ GR < G ∧ G < Gn

theorem TabI.dr {S : Sets.Chg} {w w' : World} {GR L D : Nat} (h : TabI S w GR L D) (hd : Dr w w') : TabI S w' GR L D := by
  obtain ⟨n, rfl⟩ := hd; exact h
theorem Fill.dr {S : Sets.Chg} {w w' : World} {GR L D Gn l : Nat} (h : Fill S w GR L D Gn l) (hd : Dr w w') : Fill S w' GR L D Gn l := by
  obtain ⟨n, rfl⟩ := hd; exact h

theorem TabI.lt {S : Sets.Chg} {w : World} {GR L D : Nat} (h : TabI S w GR L D) : GR < w.heap.size := by
  obtain ⟨vs, h1, _⟩ := h; exact h1.lt

theorem TabI.get {S : Sets.Chg} {w : World} {GR L D d j : Nat} (h : TabI S w GR L D) (h1 : D < d) (h2 : d ≤ L) (hj : j < S.n) :
    ∃ G, w.cell? ⟨GR, d, none⟩ = some (.slice (some ⟨G, 0, none⟩) S.n S.n) ∧ w.cell? ⟨G, j, none⟩ = some (.int .i64 (S.R (L - d) j)) := by
  obtain ⟨vs, a, b, c⟩ := h
  obtain ⟨G, e, f, _⟩ := c d h1 h2
  refine ⟨G, a.at_ e, ?_⟩
  rw [f.cell j (by rw [fillL_len]; exact hj), fillL_get S _ j hj]

theorem Fill.get {S : Sets.Chg} {w : World} {GR L D Gn l d j : Nat} (h : Fill S w GR L D Gn l) (h1 : D < d) (h2 : d ≤ L) (hj : j < S.n) :
    ∃ G, w.cell? ⟨GR, d, none⟩ = some (.slice (some ⟨G, 0, none⟩) S.n S.n) ∧ w.cell? ⟨G, j, none⟩ = some (.int .i64 (S.R (L - d) j)) := by
  obtain ⟨vs, a, b, _, _, _, c⟩ := h
  obtain ⟨G, e, f, _⟩ := c d h1 h2
  refine ⟨G, a.at_ e, ?_⟩
  rw [f.cell j (by rw [fillL_len]; exact hj), fillL_get S _ j hj]

theorem Fill.own {S : Sets.Chg} {w : World} {GR L D Gn l j : Nat} (h : Fill S w GR L D Gn l) (hj : j < S.n) :
    w.cell? ⟨GR, D, none⟩ = some (.slice (some ⟨Gn, 0, none⟩) S.n S.n) ∧ (∃ v, w.cell? ⟨Gn, j, none⟩ = some v) ∧ w.frozen? ⟨Gn, j, none⟩ = false ∧ GR < Gn := by
  obtain ⟨vs, a, b, c, d, e, _⟩ := h
  exact ⟨a.at_ c, ⟨_, e.cell j (by rw [fillL_len]; exact hj)⟩, e.free j, d⟩

/-- A new row, put into the table. -/
theorem TabI.start {S : Sets.Chg} {w w1 : World} {GR L D : Nat} (h : TabI S w GR L D) (hD : D ≤ L) (hrow : Row w1 w.heap.size 2 S.n (List.replicate S.n (.int .i64 0))) (hb : Below w.heap.size w w1) :
    (∃ v, w1.cell? ⟨GR, D, none⟩ = some v) ∧ w1.frozen? ⟨GR, D, none⟩ = false ∧ Fill S (w1.setCell ⟨GR, D, none⟩ (.slice (some ⟨w.heap.size, 0, none⟩) S.n S.n)) GR L D w.heap.size 0 := by
  have hlt := h.lt
  obtain ⟨vs, a, b, c⟩ := h
  have a1 : Row w1 GR 22 (L + 1) vs := a.below hb a.lt
  refine ⟨⟨_, a1.cell D (by omega)⟩, a1.free D, vs.set D (.slice (some ⟨w.heap.size, 0, none⟩) S.n S.n), a1.set D _, by simpa using b, ?_, hlt, ?_, fun d h1 h2 => ?_⟩
  · rw [List.getElem?_set, if_pos rfl, if_pos (by omega)]
  · rw [fillL_zero]
    exact (rw_zero hrow).past (by omega) _ _
  · obtain ⟨G, e, f, g⟩ := c d h1 h2
    have hG := f.lt
    refine ⟨G, ?_, (f.below hb hG).past (by omega) _ _, g, hG⟩
    rw [List.getElem?_set, if_neg (by omega)]; exact e

theorem Fill.put {S : Sets.Chg} {w : World} {GR L D Gn l : Nat} (h : Fill S w GR L D Gn l) (hl : l < S.n) : Fill S (w.setCell ⟨Gn, l, none⟩ (.int .i64 (S.R (L - D) l))) GR L D Gn (l + 1) := by
  obtain ⟨vs, a, b, c, d, e, f⟩ := h
  refine ⟨vs, Row.other a (by show GR ≠ Gn; omega) _, b, c, d, ?_, fun k h1 h2 => ?_⟩
  · have := e.set l (S.R (L - D) l)
    rw [fillL_set S _ l hl] at this
    exact this
  · obtain ⟨G, e1, e2, e3, e4⟩ := f k h1 h2
    exact ⟨G, e1, e2.past (by omega) _ _, e3, e4⟩

theorem Fill.done {S : Sets.Chg} {w : World} {GR L D Gn : Nat} (h : Fill S w GR L (D + 1) Gn S.n) : TabI S w GR L D := by
  obtain ⟨vs, a, b, c, d, e, f⟩ := h
  refine ⟨vs, a, b, fun k h1 h2 => ?_⟩
  by_cases hk : k = D + 1
  · subst hk; exact ⟨Gn, c, e, d⟩
  · obtain ⟨G, e1, e2, e3, _⟩ := f k (by omega) h2
    exact ⟨G, e1, e2, e3⟩

/-- The whole table, its rows below block U. -/
def TabU (S : Sets.Chg) (w : World) (GR L U : Nat) : Prop :=
  GR < U ∧ ∃ vs : List Value, Row w GR 22 (L + 1) vs ∧ vs.length = L + 1 ∧ ∀ d, 0 < d → d ≤ L → ∃ G, vs[d]? = some (.slice (some ⟨G, 0, none⟩) S.n S.n) ∧ Rw w G S.n (fillL S (L - d) S.n) ∧ G < U

theorem TabI.toU {S : Sets.Chg} {w : World} {GR L : Nat} (h : TabI S w GR L 0) : TabU S w GR L w.heap.size := by
  have hlt := h.lt
  obtain ⟨vs, a, b, c⟩ := h
  refine ⟨hlt, vs, a, b, fun d h1 h2 => ?_⟩
  obtain ⟨G, e, f, _⟩ := c d h1 h2
  exact ⟨G, e, f, f.lt⟩
theorem TabU.dr {S : Sets.Chg} {w w' : World} {GR L U : Nat} (h : TabU S w GR L U) (hd : Dr w w') : TabU S w' GR L U := by
  obtain ⟨n, rfl⟩ := hd; exact h
theorem TabU.alloc {S : Sets.Chg} {w : World} {GR L U : Nat} (h : TabU S w GR L U) (o : Obj) : TabU S (w.alloc o) GR L U := by
  obtain ⟨hu, vs, a, b, c⟩ := h
  refine ⟨hu, vs, a.alloc o, b, fun d h1 h2 => ?_⟩
  obtain ⟨G, e, f, g⟩ := c d h1 h2
  exact ⟨G, e, f.alloc o, g⟩
theorem TabU.touch {S : Sets.Chg} {w w' : World} {GR L U G : Nat} (h : TabU S w GR L U) (ht : Touch G w w') (hG : U ≤ G) : TabU S w' GR L U := by
  obtain ⟨hu, vs, a, b, c⟩ := h
  refine ⟨hu, vs, a.touch ht (by omega), b, fun d h1 h2 => ?_⟩
  obtain ⟨G, e, f, g⟩ := c d h1 h2
  exact ⟨G, e, f.touch ht (by omega), g⟩
theorem TabU.get {S : Sets.Chg} {w : World} {GR L U d j : Nat} (h : TabU S w GR L U) (h1 : 0 < d) (h2 : d ≤ L) (hj : j < S.n) :
    ∃ G, w.cell? ⟨GR, d, none⟩ = some (.slice (some ⟨G, 0, none⟩) S.n S.n) ∧ w.cell? ⟨G, j, none⟩ = some (.int .i64 (S.R (L - d) j)) := by
  obtain ⟨_, vs, a, b, c⟩ := h
  obtain ⟨G, e, f, _⟩ := c d h1 h2
  refine ⟨G, a.at_ e, ?_⟩
  rw [f.cell j (by rw [fillL_len]; exact hj), fillL_get S _ j hj]

set_option maxHeartbeats 16000000 in
set_option maxRecDepth 100000 in
theorem implLC_yes (w : World) (g n' c : Nat) (cs : List Int) (hn : cs.length = n') (hcap : n' ≤ c) (hm : n' ≤ 1048576) (hj : Rd w g 0 cs) (hg : g < w.heap.size) (x : Int) (xlo : -9223372036854775808 ≤ x) (xhi : x ≤ 9223372036854775807) (hc : chB cs x = true) :
    Calls Try.prog 44 #[.slice (some ⟨g, 0, none⟩) n' c, .int .i64 x] w (LcP cs x w) := by
  obtain ⟨n, rfl, n1, n2, hnn, hw0⟩ := chB_nat hc
  obtain ⟨S, hS⟩ : ∃ S, chS cs n = S := ⟨_, rfl⟩
  have hSn : S.n = n := by rw [← hS]; rfl
  have hSw : ∀ l i, S.w l i = cs.getD (l * n + i) 0 := fun l i => by rw [← hS]; rfl
  have hw : ∀ l i, l < S.n → i < S.n → 0 ≤ S.w l i ∧ S.w l i ≤ 10000 := fun l i a b => by rw [hSw]; exact hw0 l i (by omega) (by omega)
  obtain ⟨L, hL⟩ : ∃ L, 2 ^ n = L + 1 := ⟨2 ^ n - 1, by have : 0 < 2 ^ n := Nat.pow_pos (by decide); omega⟩
  have hL1 := pow_le10 n2
  rw [hL] at hL1
  have hp : (2 : Int) ^ n = (L : Int) + 1 := by rw [powI hL]; rfl
  have wp : IntKind.i64.wrap ((2 : Int) ^ n) = (L : Int) + 1 := by rw [hp]; exact IntWalk.i64_in _ (by omega)
  have hall : S.all = L := by unfold Sets.Chg.all; rw [hSn, hL]; omega
  have hfin : ∀ w' G cap, Rw w' G cap (S.st n).out → w.heap.size ≤ G → Below w.heap.size w w' → LcP cs n w (.returned (.tuple #[.slice (some ⟨G, 0, none⟩) n cap, .int .i64 (S.firstK n), .bool true])) w' := by
    intro w' G cap h1 h2 h3
    have hl := Sets.Chg.st_out_len (S := S) n
    unfold LcP lcL lcV
    rw [Int.toNat_natCast, hS]
    exact ⟨G, cap, by rw [hl], h1, h2, h3⟩
  have hRbd : ∀ y j, y ≤ L → j < n → 0 ≤ S.R y j ∧ S.R y j ≤ 10240000 := fun y j a b => by
    have := Sets.Chg.R_bd hw y (by rw [hSn, hL]; omega) j (by omega); omega
  have hFbd : ∀ y l k, y ≤ L → l < n → k ≤ n → -1 ≤ S.foldK S.R y l k ∧ S.foldK S.R y l k ≤ 11240000 := fun y l k a b d => by
    have := Sets.Chg.foldK_bd hw (x := y) (l := l) (by rw [hSn, hL]; omega) (by omega) k (by omega); omega
  have hmax : ∀ y l, y ≤ L → l < n → (if 0 < S.foldK S.R y l n then S.foldK S.R y l n else 0) = S.R y l := fun y l a b => by
    have hr := hRbd y l a b
    by_cases e : y = 0
    · subst e
      have : ∀ k, S.foldK S.R 0 l k = -1 := fun k => by
        induction k with
        | zero => rfl
        | succ k ih => simp only [Sets.Chg.foldK, Sets.has, Nat.zero_testBit]; exact ih
      rw [this n, Sets.Chg.R_zero]; decide
    · have := S.R_eq y l e
      rw [hSn] at this
      rw [this] at hr ⊢; split <;> omega
  have hF1bd : ∀ k, k ≤ n → -1 ≤ S.firstK k ∧ S.firstK k ≤ 11240000 := fun k a => by
    have := Sets.Chg.first_bd hw k (by omega); rw [hall] at this; omega
  have hst : ∀ s, s ≤ n → LcSt S L s := fun s a => lcSt (by rw [hSn]; exact hL) (by omega) (by omega) hw (by omega)
  have hCell : ∀ w1, Rd w1 g 0 cs → ∀ l i, l < n → i < n → ∃ (p y : Nat) (v : Int), IntKind.i64.wrap ((l : Int) * (n : Int)) = (p : Int) ∧ p ≤ 100 ∧ p + i = y ∧ IntKind.i64.wrap ((p : Int) + (i : Int)) = (y : Int) ∧ y < n' ∧ w1.cell? ⟨g, y, none⟩ = some (.int .i64 v) ∧ S.w l i = v ∧ 0 ≤ v ∧ v ≤ 10000 := by
    intro w1 h1 l i a b
    have e := lin_lt a b
    have nn : n * n ≤ 10 * 10 := Nat.mul_le_mul n2 n2
    have hli : l * n + i < n' := by omega
    refine ⟨l * n, l * n + i, _, ?_, by omega, rfl, ?_, hli, h1.get _ (by omega), hSw l i, hw0 l i a b⟩
    · rw [← Int.natCast_mul]; exact IntWalk.i64_in _ (by omega)
    · rw [IntWalk.i64_in _ (by omega)]; omega
  have hBit : ∀ y i, y ≤ L → i < n → ∃ B : Nat, 2 ^ i = B ∧ 1 ≤ B ∧ B ≤ 1024 ∧ (2 : Int) ^ i = (B : Int) ∧ bits .and .i64 ((y : Int) / (B : Int)) 1 = (if Sets.has y i = true then 1 else 0) ∧ Sets.has (L - y) i = (!Sets.has y i) ∧ (Sets.has y i = false → y + B ≤ L ∧ bits .or .i64 (y : Int) (B : Int) = ((y + B : Nat) : Int)) := by
    intro y i a b
    have e : 2 ^ i ≤ 1024 := pow_le10 (by omega)
    have y62 : y < 2 ^ 62 := Nat.lt_of_le_of_lt (show y ≤ 1023 by omega) (by decide)
    have hcm : Sets.has (L - y) i = !Sets.has y i := by
      have := Sets.has_compl (n := n) (s := y) (i := i) (by omega) b
      rw [hL] at this
      have e2 : L + 1 - 1 - y = L - y := by omega
      rw [e2] at this; exact this
    refine ⟨2 ^ i, rfl, Nat.pow_pos (by decide), e, powI rfl, ?_, hcm, fun h => ⟨?_, ?_⟩⟩
    · have := Sets.and_one y i y62; unfold Sets.bit at this; exact this
    · rw [h] at hcm
      have := Sets.has_le hcm; omega
    · rw [Sets.bits_or _ _ y62 (Sets.pow_lt (by omega)), Sets.or_bit _ _ y62 (by omega) h]
  have HALL := Lib.hid hall; have HFIN := Lib.hid hfin; have HRB := Lib.hid hRbd; have HFB := Lib.hid hFbd; have HMX := Lib.hid hmax; have HF1 := Lib.hid hF1bd; have HST := Lib.hid hst; have HCELL := Lib.hid hCell; have HBIT := Lib.hid hBit
  have HN := Lib.hid hn; have HC := Lib.hid hc; have HJ := Lib.hid hj; have HSN := Lib.hid hSn; have HL := Lib.hid hL
  clear hall hfin hRbd hFbd hmax hF1bd hst hCell hBit hn hc hj hSn hSw hw hw0 hS hnn hL
  go_enter Try.func44, Try.ntmps44
  go_wp2_with (first
    | (go_at_call 88; refine (areCosts_any _ g n' c cs HN.out hm HJ.out _).mono ?_; rintro e w' ⟨rfl, rfl⟩; rw [HC.out])
    | (at_make; refine wp_make rfl (.tmp 30) 81 rfl 22 (.slice none 0 0) 24 Try.underlying81 Try.info22 rfl (L + 1) .i64 _ rfl rfl (by omega) (by unfold maxLen; omega) ?_; intro w1 hrow hbel))
  obtain ⟨GR, hGR⟩ : ∃ G, w.heap.size = G := ⟨_, rfl⟩
  have T0 : Hid (TabI S w1 GR L L) := Lib.hid (by rw [← hGR]; exact ⟨_, hrow, by simp, fun d h1 h2 => by omega⟩)
  have B0 : Hid (Below GR w w1) := Lib.hid (by rw [← hGR]; exact hbel)
  have hgR : g < GR := by omega
  have HGR := Lib.hid hGR
  rw [hGR]
  clear hrow hbel hGR wp hp
  go_loopw [9] (fun i wr => ∃ D : Nat, D ≤ L ∧ i = .int .i64 D ∧ TabI S wr GR L D ∧ Below GR w wr) (fun i _ => (intOf i).toNat)
  case atStart => exact ⟨L, by omega, rfl, T0.out, B0.out⟩
  case round =>
    obtain ⟨D, x2, rfl, hro, hbk⟩ := hrel
    have HO := Lib.hid hro; have HBk := Lib.hid hbk
    have hGRlt := hro.lt
    clear hro hbk T0 B0
    by_cases hlt : 1 ≤ D
    · obtain ⟨D, rfl⟩ : ∃ E, D = E + 1 := ⟨D - 1, by omega⟩
      obtain ⟨E, hE⟩ : ∃ E, D + 1 = E := ⟨_, rfl⟩
      have HE := Lib.hid hE
      have hE1 : 1 ≤ E := by omega
      rw [hE] at HO x2 hlt ⊢
      clear hE
      go_wp2_with (at_make; refine wp_make rfl (.tmp 39) 22 rfl 2 (.int .i64 0) 8 Try.underlying22 Try.info2 rfl n .i64 _ rfl rfl (by omega) (by unfold maxLen; omega) ?_; intro w1_1 hrow hbel; rw [← HSN.out] at hrow; obtain ⟨⟨_, ha⟩, hb, hfl⟩ := HO.out.start x2 hrow hbel; rw [HSN.out] at hfl; have HFL := Lib.hid hfl; have HBL := Lib.hid hbel; clear hrow hbel hfl)
      obtain ⟨Gn, hGn⟩ : ∃ G, wr.heap.size = G := ⟨_, rfl⟩
      rw [hGn] at HFL ⊢
      have hgn : GR < Gn := by omega
      have HB1 : Hid (Below GR w (w1_1.setCell ⟨GR, E, none⟩ (.slice (some ⟨Gn, 0, none⟩) n n))) := Lib.hid (((HBk.out.trans (HBL.out.mono (by omega)))).setCell (p := ⟨GR, E, none⟩) (Nat.le_refl _) _)
      clear hGn HO HBk HBL ha hb
      obtain ⟨w2, hw2⟩ : ∃ w2, w1_1.setCell ⟨GR, E, none⟩ (.slice (some ⟨Gn, 0, none⟩) n n) = w2 := ⟨_, rfl⟩
      rw [hw2] at HFL HB1 ⊢
      clear hw2
      go_loopw [43, 10, 11, 12, 13, 46, 47] (fun i _ _ _ _ _ _ w3 => ∃ l : Nat, l ≤ n ∧ i = .int .i64 l ∧ Fill S w3 GR L E Gn l ∧ Below GR w w3) (fun i _ _ _ _ _ _ _ => n - (intOf i).toNat)
      case atStart => exact ⟨0, by omega, rfl, HFL.out, HB1.out⟩
      case round =>
        obtain ⟨l, hl, rfl, hro, hbk⟩ := hrel
        have HO2 := Lib.hid hro; have HB2 := Lib.hid hbk
        clear hro hbk HFL HB1
        by_cases hll : l < n
        · go_wp2
          obtain ⟨wq, rfl⟩ : ∃ wq : World, wq = wr := ⟨_, rfl⟩
          have hwr1 : ∀ w3 : World, Dr wq w3 → Rd w3 g 0 cs := fun w3 h => (HJ.out.below HB2.out hgR).dr' h
          have HRD := Lib.hid hwr1
          clear hwr1
          obtain ⟨x, hx⟩ : ∃ x, L - E = x := ⟨_, rfl⟩
          have hxE : x + E = L := by omega
          have HX := Lib.hid hx
          clear hx
          go_loopw [11, 12, 13, 47] (fun b _ _ i w3 => ∃ k : Nat, k ≤ n ∧ i = .int .i64 k ∧ b = .int .i64 (S.foldK S.R x l k) ∧ Dr wq w3) (fun _ _ _ i _ => n - (intOf i).toNat)
          case atStart => exact ⟨0, by omega, rfl, rfl, .refl _⟩
          case round =>
            obtain ⟨k, hk, rfl, rfl, hd⟩ := hrel
            have HD := Lib.hid hd
            clear hd
            by_cases hkl : k < n
            · obtain ⟨B, hB, B1, B2, hB2, hband, hcm, hyes⟩ := HBIT.out E k x2 hkl
              rw [HX.out] at hcm
              have wB : IntKind.i64.wrap (B : Int) = (B : Int) := IntWalk.i64_in _ (by omega)
              have wB2 : IntKind.i64.wrap ((2 : Int) ^ k) = (B : Int) := by rw [hB2]; exact wB
              have HB0 := Lib.hid hB
              cases hh : Sets.has E k with
              | true =>
                rw [hh] at hband hcm
                have hba : bits .and .i64 ((E : Int) / (B : Int)) 1 = 1 := by simpa using hband
                have hcm' : Sets.has x k = false := hcm
                have hstep : S.foldK S.R x l (k + 1) = S.foldK S.R x l k := by simp only [Sets.Chg.foldK, hcm']; rfl
                have HS := Lib.hid hstep
                clear hB hyes hband hstep hh hcm hcm'
                go_wp2
                go_roundw
                case rel => exact ⟨k + 1, by omega, by go_num, by rw [HS.out], HD.out⟩
                case measure => simp [intOf]; omega
              | false =>
                rw [hh] at hband hcm
                have hba : bits .and .i64 ((E : Int) / (B : Int)) 1 = 0 := by simpa using hband
                have hcm' : Sets.has x k = true := hcm
                obtain ⟨hdL, hbo⟩ := hyes hh
                obtain ⟨d, hd⟩ : ∃ d, E + B = d := ⟨_, rfl⟩
                rw [hd] at hbo hdL
                obtain ⟨p1, y1, v1, wp1, p1b, hy1, wy1, yn1, c1, hw1, v10, v11⟩ := HCELL.out wr (HRD.out _ HD.out) l k hll hkl
                obtain ⟨G2, c2, c3⟩ := (HO2.out.dr HD.out).get (d := d) (j := k) (by omega) hdL (by rw [HSN.out]; exact hkl)
                rw [HSN.out] at c2
                have hxd : L - d = x - B := by omega
                rw [hxd] at c3
                obtain ⟨r0, r1⟩ := HRB.out (x - B) k (by omega) hkl
                obtain ⟨f0, f1⟩ := HFB.out x l k (by omega) hll hk
                have hcand : S.cand S.R x l k = v1 + S.R (x - B) k := by
                  unfold Sets.Chg.cand; rw [hw1, HB0.out]
                have hstep : S.foldK S.R x l (k + 1) = if S.foldK S.R x l k < 0 ∨ v1 + S.R (x - B) k < S.foldK S.R x l k then v1 + S.R (x - B) k else S.foldK S.R x l k := by
                  simp only [Sets.Chg.foldK, hcm', if_true, hcand]
                have HS := Lib.hid hstep
                have hdl2 : d < L + 1 := by omega
                clear hB hyes hband hstep hh hcm hcm' hcand hw1 hy1 hxd hd
                generalize S.R (x - B) k = r at *
                generalize S.foldK S.R x l k = f at *
                have ws : IntKind.i64.wrap (v1 + r) = v1 + r := IntWalk.i64_in _ (by omega)
                by_cases hf : f < 0
                · go_wp2
                  go_quiet (fail)
                  go_wp2
                  go_roundw
                  case rel => exact ⟨k + 1, by omega, by go_num, by rw [HS.out, if_pos (.inl hf)], HD.out.drewN _⟩
                  case measure => simp [intOf]; omega
                · by_cases hf2 : v1 + r < f
                  · go_wp2
                    go_quiet (fail)
                    go_wp2
                    go_roundw
                    case rel => exact ⟨k + 1, by omega, by go_num, by rw [HS.out, if_pos (.inr hf2)], HD.out.drewN _⟩
                    case measure => simp [intOf]; omega
                  · go_wp2
                    go_quiet (fail)
                    go_wp2
                    go_roundw
                    case rel => exact ⟨k + 1, by omega, by go_num, by rw [HS.out, if_neg (by omega)], HD.out.drewN _⟩
                    case measure => simp [intOf]; omega
            · obtain rfl : k = n := by omega
              have HO3 := Lib.hid (HO2.out.dr HD.out)
              obtain ⟨c1, ⟨_, c2⟩, c3, _⟩ := HO3.out.own (j := l) (by rw [HSN.out]; exact hll)
              rw [HSN.out] at c1
              have hnew := HO3.out.put (by rw [HSN.out]; exact hll)
              rw [HX.out] at hnew
              have HNEW := Lib.hid hnew
              have HBW : Hid (Below GR w wr) := Lib.hid (HB2.out.trans HD.out.below)
              have hmx := HMX.out x l (by omega) hll
              clear hnew
              generalize S.R x l = r at *
              go_wp2
              go_roundw
              case rel => exact ⟨l + 1, by omega, by go_num, HNEW.out, HBW.out.setCell (p := ⟨Gn, l, none⟩) (by show GR ≤ Gn; omega) _⟩
              case measure => simp [intOf]; omega
        · have hln : l = n := by omega
          have hx1 : TabI S wr GR L D := by
            have := HO2.out
            rw [hln, ← HE.out, ← HSN.out] at this
            exact this.done
          have HX1 := Lib.hid hx1
          have hED : (E : Int) - 1 = (D : Int) := by have := HE.out; omega
          clear hx1 hln
          go_wp2
          go_roundw
          case rel => exact ⟨D, by have := HE.out; omega, rfl, HX1.out, HB2.out⟩
          case measure => simp [intOf]; have := HE.out; omega
    · have hD0 : D = 0 := by omega
      have hU : TabU S wr GR L wr.heap.size := by have := HO.out; rw [hD0] at this; exact this.toU
      obtain ⟨U, hUU⟩ : ∃ U, wr.heap.size = U := ⟨_, rfl⟩
      have HU0 : Hid (TabU S wr GR L U) := Lib.hid (by rw [← hUU]; exact hU)
      have HUU := Lib.hid hUU
      clear hD0 hU HO hUU
      go_wp2
      have R00 := Lib.hid (rw_nil (row_fresh wr))
      have hB1 : Below GR w (wr.alloc (.cells #[] 2)) := HBk.out.alloc (by omega) _
      have HT1 := Lib.hid (HU0.out.alloc (.cells #[] 2))
      have hG0 : U ≤ wr.heap.size := by have := HUU.out; omega
      have hG1 : GR < U := HU0.out.1
      have HB1 := Lib.hid hB1
      obtain ⟨G0, hG0e⟩ : ∃ G, wr.heap.size = G := ⟨_, rfl⟩
      rw [hG0e] at R00 hG0 ⊢
      obtain ⟨wq, hwq⟩ : ∃ wq : World, wr.alloc (.cells #[] 2) = wq := ⟨_, rfl⟩
      rw [hwq] at R00 HT1 HB1 ⊢
      clear hB1 hwq hG0e HBk HU0 HUU hGRlt
      have hwr1 : ∀ w3 : World, Below GR w w3 → Rd w3 g 0 cs := fun w3 h => HJ.out.below h hgR
      have HRD := Lib.hid hwr1
      clear hwr1
      go_loopw [15, 16, 17, 94] (fun b _ _ i w3 => ∃ k : Nat, k ≤ n ∧ i = .int .i64 k ∧ b = .int .i64 (S.firstK k) ∧ Dr wq w3) (fun _ _ _ i _ => n - (intOf i).toNat)
      case atStart => exact ⟨0, by omega, rfl, rfl, .refl _⟩
      case round =>
        obtain ⟨k, hk, rfl, rfl, hd⟩ := hrel
        have HD := Lib.hid hd
        clear hd
        have HB3 : Hid (Below GR w wr) := Lib.hid (HB1.out.trans HD.out.below)
        have HO3 := Lib.hid (HT1.out.dr HD.out)
        by_cases hkl : k < n
        · obtain ⟨B, hB, B1, B2, hB2, hband, hcm, hyes⟩ := HBIT.out 0 k (Nat.zero_le _) hkl
          have wB : IntKind.i64.wrap (B : Int) = (B : Int) := IntWalk.i64_in _ (by omega)
          have wB2 : IntKind.i64.wrap ((2 : Int) ^ k) = (B : Int) := by rw [hB2]; exact wB
          have hh : Sets.has 0 k = false := by unfold Sets.has; exact Nat.zero_testBit k
          obtain ⟨hBx, _⟩ := hyes hh
          rw [Nat.zero_add] at hBx
          obtain ⟨p1, y1, v1, wp1, p1b, hy1, wy1, yn1, c1, hw1, v10, v11⟩ := HCELL.out wr (HRD.out _ HB3.out) k k hkl hkl
          obtain ⟨G2, c2, c3⟩ := HO3.out.get (d := B) (j := k) (by omega) hBx (by rw [HSN.out]; exact hkl)
          rw [HSN.out] at c2
          obtain ⟨r0, r1⟩ := HRB.out (L - B) k (by omega) hkl
          obtain ⟨f0, f1⟩ := HF1.out k hk
          have hcand : S.cand S.R S.all k k = v1 + S.R (L - B) k := by
            unfold Sets.Chg.cand; rw [hw1, hB, HALL.out]
          have hstep : S.firstK (k + 1) = if S.firstK k < 0 ∨ v1 + S.R (L - B) k < S.firstK k then v1 + S.R (L - B) k else S.firstK k := by
            simp only [Sets.Chg.firstK, hcand]
          have HS := Lib.hid hstep
          have hdl2 : B < L + 1 := by omega
          clear hB hyes hband hstep hh hcm hcand hw1 hy1
          generalize S.R (L - B) k = r at *
          generalize S.firstK k = f at *
          have ws : IntKind.i64.wrap (v1 + r) = v1 + r := IntWalk.i64_in _ (by omega)
          by_cases hf : f < 0
          · go_wp2
            go_quiet (fail)
            go_wp2
            go_roundw
            case rel => exact ⟨k + 1, by omega, by go_num, by rw [HS.out, if_pos (.inl hf)], HD.out.drewN _⟩
            case measure => simp [intOf]; omega
          · by_cases hf2 : v1 + r < f
            · go_wp2
              go_quiet (fail)
              go_wp2
              go_roundw
              case rel => exact ⟨k + 1, by omega, by go_num, by rw [HS.out, if_pos (.inr hf2)], HD.out.drewN _⟩
              case measure => simp [intOf]; omega
            · go_wp2
              go_quiet (fail)
              go_wp2
              go_roundw
              case rel => exact ⟨k + 1, by omega, by go_num, by rw [HS.out, if_neg (by omega)], HD.out.drewN _⟩
              case measure => simp [intOf]; omega
        · obtain rfl : k = n := by omega
          have hF := HF1.out k (Nat.le_refl _)
          obtain ⟨F, hFF⟩ : ∃ F, S.firstK k = F := ⟨_, rfl⟩
          rw [hFF] at hF ⊢
          obtain ⟨hF0, hF1⟩ := hF
          have HFF := Lib.hid hFF
          clear hFF hlt hk hkl
          have hst0 : (S.st 0).out = [] ∧ ((L - (S.st 0).left : Nat) : Int) = 0 ∧ (S.st 0).rem = F := ⟨rfl, by show ((L - S.all : Nat) : Int) = 0; rw [HALL.out]; omega, by rw [← HFF.out, ← HSN.out]; rfl⟩
          have HST0 := Lib.hid hst0
          have HR1 := Lib.hid (R00.out.dr HD.out)
          clear hst0
          go_wp2
          go_loopw [14, 15, 19, 20, 21, 128, 129] (fun o cst lf _ _ _ _ w3 => ∃ s G cap : Nat, s ≤ k ∧ o = .slice (some ⟨G, 0, none⟩) s cap ∧ cst = .int .i64 (S.st s).rem ∧ lf = .int .i64 ((L - (S.st s).left : Nat) : Int) ∧ Rw w3 G cap (S.st s).out ∧ TabU S w3 GR L U ∧ U ≤ G ∧ Below GR w w3) (fun o _ _ _ _ _ _ _ => k - lenOf o)
          case atStart => exact ⟨0, G0, 0, by omega, rfl, by rw [HST0.out.2.2], by rw [HST0.out.2.1], by rw [HST0.out.1]; exact HR1.out, HO3.out, hG0, HB3.out⟩
          case round =>
            obtain ⟨s, G, cap, hs, rfl, rfl, rfl, hos, hro, hGG, hbk⟩ := hrel
            obtain ⟨q1, q2, q3, q4, q5, q6, q7⟩ := HST.out s hs
            have HOS := Lib.hid hos; have HO4 := Lib.hid hro; have HB4 := Lib.hid hbk
            have HLO := Lib.hid q1; have HLAST := Lib.hid q2
            clear hos hro hbk R00 HR1 HB1 q1 q2
            by_cases hsl : s < k
            · obtain ⟨a1, a2, a3⟩ := q7 (by rw [HSN.out]; exact hsl)
              have hs1 : (S.st (s + 1)).out = (S.st s).out ++ [((S.pick (S.st s) S.n 0 : Nat) : Int)] ∧ (S.st (s + 1)).left = (S.st s).left - 2 ^ (S.pick (S.st s) S.n 0) ∧ (S.st (s + 1)).rem = (S.st s).rem - S.toll (S.st s) (S.pick (S.st s) S.n 0) := ⟨rfl, rfl, rfl⟩
              have hgood : ∀ i, S.good (S.st s) i = (Sets.has (S.st s).left i && decide (S.toll (S.st s) i + S.R ((S.st s).left - 2 ^ i) i = (S.st s).rem)) := fun i => rfl
              have htoll : ∀ i, S.toll (S.st s) i = if (S.st s).out = [] then S.w i i else S.w ((S.st s).out.getD ((S.st s).out.length - 1) 0).toNat i := fun i => rfl
              have HS1 := Lib.hid hs1; have HGOOD := Lib.hid hgood; have HTOLL := Lib.hid htoll; have HA3 := Lib.hid a3; have HA2 := Lib.hid a2
              generalize (S.st s).left = lf at *
              generalize (S.st s).rem = rm at *
              generalize (S.st s).out = os at *
              generalize S.pick (S.st s) S.n 0 = pk at *
              have a1 : pk < k := by have := HSN.out; omega
              have HTE : Hid (∀ i, S.toll (S.st s) i = S.toll ⟨os, lf, rm⟩ i) := Lib.hid (fun i => by rw [HTOLL.out]; rfl)
              clear hs1 hgood htoll a2 a3 q5 q6 q7
              obtain ⟨q4a, q4b⟩ := q4
              obtain ⟨dn, hdn⟩ : ∃ dn, L - lf = dn := ⟨_, rfl⟩
              have hdl : dn + lf = L := by omega
              have HDN := Lib.hid hdn
              rw [hdn]
              clear hdn
              go_wp2
              obtain ⟨wz, rfl⟩ : ∃ wz : World, wz = wr := ⟨_, rfl⟩
              go_loopw [14, 15, 19, 20, 21, 129] (fun o cst lfv _ _ i w3 => ∃ q : Nat, q ≤ pk ∧ o = .slice (some ⟨G, 0, none⟩) s cap ∧ cst = .int .i64 rm ∧ lfv = .int .i64 (dn : Int) ∧ i = .int .i64 q ∧ wz = w3) (fun _ _ _ _ _ i _ => k - (intOf i).toNat)
              case atStart => exact ⟨0, by omega, rfl, rfl, rfl, rfl, by first | exact trivial | rfl⟩
              case round =>
                obtain ⟨q, hq, rfl, rfl, rfl, rfl, rfl⟩ := hrel
                have hqk : q < k := by omega
                obtain ⟨B, hB, B1, B2, hB2, hband, hcm, hyes⟩ := HBIT.out dn q (by omega) hqk
                have hLdn : L - dn = lf := by omega
                rw [hLdn] at hcm
                clear hLdn
                have wB : IntKind.i64.wrap (B : Int) = (B : Int) := IntWalk.i64_in _ (by omega)
                have wB2 : IntKind.i64.wrap ((2 : Int) ^ q) = (B : Int) := by rw [hB2]; exact wB
                by_cases hs0 : s = 0
                · subst hs0
                  by_cases hqp : q = pk
                  · subst hqp
                    have hg2 := HA2.out
                    rw [HGOOD.out, Bool.and_eq_true, decide_eq_true_eq, hB] at hg2
                    obtain ⟨hhl, hg2⟩ := hg2
                    rw [hhl] at hcm
                    have hh : Sets.has dn q = false := by revert hcm; cases Sets.has dn q <;> simp
                    rw [hh] at hband
                    have hba : bits .and .i64 ((dn : Int) / (B : Int)) 1 = 0 := by simpa using hband
                    obtain ⟨hdL, hbo⟩ := hyes hh
                    have HB0 := Lib.hid hB
                    have hle : B ≤ lf := by rw [← hB]; exact Sets.has_le hhl
                    obtain ⟨G2, c2, c3'⟩ := HO4.out.get (d := dn + B) (j := q) (by omega) hdL (by rw [HSN.out]; exact hqk)
                    have hxd : L - (dn + B) = lf - B := by omega
                    rw [HSN.out] at c2
                    rw [hxd] at c3'
                    obtain ⟨r0, r1⟩ := HRB.out (lf - B) q (by omega) hqk
                    have hdl2 : dn + B < L + 1 := by omega
                    obtain ⟨p1, y1, v, wp1, p1b, hy1, wy1, yn1, c1, hw1, v10, v11⟩ := HCELL.out _ (HRD.out _ HB4.out) q q hqk hqk
                    have htl : S.toll ⟨os, lf, rm⟩ q = v := by
                      have : os = [] := List.length_eq_zero_iff.1 HLO.out
                      unfold Sets.Chg.toll; rw [if_pos this]; exact hw1
                    have HTL := Lib.hid htl
                    clear hw1 hy1 htl
                    rw [HTE.out, HTL.out] at hg2
                    generalize S.R (lf - B) q = r at *
                    obtain ⟨d, hd⟩ : ∃ d, dn + B = d := ⟨_, rfl⟩
                    rw [hd] at c2 hbo hdl2
                    have e1 : v + r ≤ rm := by omega
                    have e2 : rm ≤ v + r := by omega
                    have hq1 : ((v + r) == rm) = true := by simp; omega
                    have hLd : L - (lf - B) = d := by omega
                    have HLd := Lib.hid hLd
                    clear hg2 hB hyes hband hh hhl hcm hxd hd hLd
                    go_wp2_with (at_builtin; refine push_int _ rfl _ _ rfl G cap os _ (q : Nat) (by rfl) HLO.out HOS.out (by rfl) (by omega) ?_; intro G' cap' w4 hO4 htc hat; obtain ⟨hb4, hG4, hrest⟩ := push_rest (by rw [HGR.out]; exact HB4.out) (by have := HGR.out; omega) HOS.out.lt htc hat; have hF4 := (HO4.out.alloc _).touch htc hGG; have hG5 : U ≤ G' := (by have := HOS.out.lt; omega); have HO5 := Lib.hid hO4; have HF5 := Lib.hid hF4; have HB5 := Lib.hid hb4; clear hO4 htc hat hrest hF4 hb4)
                    go_roundw
                    case rel => exact ⟨0 + 1, G', cap', by omega, rfl, by rw [HS1.out.2.2, HTE.out, HTL.out], by rw [HS1.out.2.1, HB0.out, HLd.out], by rw [HS1.out.1]; exact HO5.out, HF5.out, hG5, by rw [← HGR.out]; exact HB5.out⟩
                    case measure => simp [lenOf]; omega
                  · have hng := HA3.out q (by omega)
                    rw [HGOOD.out, hB] at hng
                    cases hhl : Sets.has lf q with
                    | false =>
                      rw [hhl] at hcm
                      have hh : Sets.has dn q = true := by revert hcm; cases Sets.has dn q <;> simp
                      rw [hh] at hband
                      have hba : bits .and .i64 ((dn : Int) / (B : Int)) 1 = 1 := by simpa using hband
                      clear hng hB hyes hband hh hhl hcm
                      go_wp2
                      go_roundw
                      case rel => exact ⟨q + 1, by omega, rfl, rfl, rfl, by go_num, by first | exact trivial | rfl⟩
                      case measure => simp [intOf]; omega
                    | true =>
                      rw [hhl, Bool.true_and, decide_eq_false_iff_not] at hng
                      rw [hhl] at hcm
                      have hh : Sets.has dn q = false := by revert hcm; cases Sets.has dn q <;> simp
                      rw [hh] at hband
                      have hba : bits .and .i64 ((dn : Int) / (B : Int)) 1 = 0 := by simpa using hband
                      obtain ⟨hdL, hbo⟩ := hyes hh
                      have hle : B ≤ lf := by rw [← hB]; exact Sets.has_le hhl
                      obtain ⟨G2, c2, c3'⟩ := HO4.out.get (d := dn + B) (j := q) (by omega) hdL (by rw [HSN.out]; exact hqk)
                      have hxd : L - (dn + B) = lf - B := by omega
                      rw [HSN.out] at c2
                      rw [hxd] at c3'
                      obtain ⟨r0, r1⟩ := HRB.out (lf - B) q (by omega) hqk
                      have hdl2 : dn + B < L + 1 := by omega
                      obtain ⟨p1, y1, v, wp1, p1b, hy1, wy1, yn1, c1, hw1, v10, v11⟩ := HCELL.out _ (HRD.out _ HB4.out) q q hqk hqk
                      have htl : S.toll ⟨os, lf, rm⟩ q = v := by
                        have : os = [] := List.length_eq_zero_iff.1 HLO.out
                        unfold Sets.Chg.toll; rw [if_pos this]; exact hw1
                      have HTL := Lib.hid htl
                      clear hw1 hy1 htl
                      rw [HTE.out, HTL.out] at hng
                      generalize S.R (lf - B) q = r at *
                      obtain ⟨d, hd⟩ : ∃ d, dn + B = d := ⟨_, rfl⟩
                      rw [hd] at c2 hbo hdl2
                      have hq1 : ((v + r) == rm) = false := by simp; omega
                      rcases (by omega : v + r < rm ∨ rm < v + r) with hlt' | hlt'
                      · clear hng hB hyes hband hh hhl hcm hxd hd
                        go_wp2
                        go_roundw
                        case rel => exact ⟨q + 1, by omega, rfl, rfl, rfl, by go_num, by first | exact trivial | rfl⟩
                        case measure => simp [intOf]; omega
                      · clear hng hB hyes hband hh hhl hcm hxd hd
                        go_wp2
                        go_roundw
                        case rel => exact ⟨q + 1, by omega, rfl, rfl, rfl, by go_num, by first | exact trivial | rfl⟩
                        case measure => simp [intOf]; omega
                · have hs00 : 0 < s := by omega
                  by_cases hqp : q = pk
                  · subst hqp
                    have hg2 := HA2.out
                    rw [HGOOD.out, Bool.and_eq_true, decide_eq_true_eq, hB] at hg2
                    obtain ⟨hhl, hg2⟩ := hg2
                    rw [hhl] at hcm
                    have hh : Sets.has dn q = false := by revert hcm; cases Sets.has dn q <;> simp
                    rw [hh] at hband
                    have hba : bits .and .i64 ((dn : Int) / (B : Int)) 1 = 0 := by simpa using hband
                    obtain ⟨hdL, hbo⟩ := hyes hh
                    have HB0 := Lib.hid hB
                    have hle : B ≤ lf := by rw [← hB]; exact Sets.has_le hhl
                    obtain ⟨G2, c2, c3'⟩ := HO4.out.get (d := dn + B) (j := q) (by omega) hdL (by rw [HSN.out]; exact hqk)
                    have hxd : L - (dn + B) = lf - B := by omega
                    rw [HSN.out] at c2
                    rw [hxd] at c3'
                    obtain ⟨r0, r1⟩ := HRB.out (lf - B) q (by omega) hqk
                    have hdl2 : dn + B < L + 1 := by omega
                    obtain ⟨p1, y1, v1, wp1, p1b, hy1, wy1, yn1, c1, hw1, v10, v11⟩ := HCELL.out _ (HRD.out _ HB4.out) q q hqk hqk
                    obtain ⟨p, hp, hpn⟩ := HLAST.out (s - 1) (by omega)
                    have co := HOS.out.cell (s - 1) (by rw [HLO.out]; omega)
                    rw [hp] at co
                    rw [HSN.out] at hpn
                    obtain ⟨p3, y3, v, wp3, p3b, hy3, wy3, yn3, c3, hw3, v30, v31⟩ := HCELL.out _ (HRD.out _ HB4.out) p q hpn hqk
                    have htl : S.toll ⟨os, lf, rm⟩ q = v := by
                      have : os ≠ [] := fun e => by have := HLO.out; rw [e] at this; simp at this; omega
                      unfold Sets.Chg.toll; rw [if_neg this]; show S.w (os.getD (os.length - 1) 0).toNat q = v
                      rw [HLO.out, hp, Int.toNat_natCast]; exact hw3
                    have HTL := Lib.hid htl
                    have hs1' : (s : Int) - 1 = ((s - 1 : Nat) : Int) := by omega
                    generalize s - 1 = sp at *
                    clear hw1 hy1 hw3 hy3 hp htl
                    rw [HTE.out, HTL.out] at hg2
                    generalize S.R (lf - B) q = r at *
                    obtain ⟨d, hd⟩ : ∃ d, dn + B = d := ⟨_, rfl⟩
                    rw [hd] at c2 hbo hdl2
                    have e1 : v + r ≤ rm := by omega
                    have e2 : rm ≤ v + r := by omega
                    have hq1 : ((v + r) == rm) = true := by simp; omega
                    have hLd : L - (lf - B) = d := by omega
                    have HLd := Lib.hid hLd
                    clear hg2 hB hyes hband hh hhl hcm hxd hd hLd
                    go_wp2_with (at_builtin; refine push_int _ rfl _ _ rfl G cap os _ (q : Nat) (by rfl) HLO.out HOS.out (by rfl) (by omega) ?_; intro G' cap' w4 hO4 htc hat; obtain ⟨hb4, hG4, hrest⟩ := push_rest (by rw [HGR.out]; exact HB4.out) (by have := HGR.out; omega) HOS.out.lt htc hat; have hF4 := (HO4.out.alloc _).touch htc hGG; have hG5 : U ≤ G' := (by have := HOS.out.lt; omega); have HO5 := Lib.hid hO4; have HF5 := Lib.hid hF4; have HB5 := Lib.hid hb4; clear hO4 htc hat hrest hF4 hb4)
                    go_roundw
                    case rel => exact ⟨s + 1, G', cap', by omega, rfl, by rw [HS1.out.2.2, HTE.out, HTL.out], by rw [HS1.out.2.1, HB0.out, HLd.out], by rw [HS1.out.1]; exact HO5.out, HF5.out, hG5, by rw [← HGR.out]; exact HB5.out⟩
                    case measure => simp [lenOf]; omega
                  · have hng := HA3.out q (by omega)
                    rw [HGOOD.out, hB] at hng
                    cases hhl : Sets.has lf q with
                    | false =>
                      rw [hhl] at hcm
                      have hh : Sets.has dn q = true := by revert hcm; cases Sets.has dn q <;> simp
                      rw [hh] at hband
                      have hba : bits .and .i64 ((dn : Int) / (B : Int)) 1 = 1 := by simpa using hband
                      clear hng hB hyes hband hh hhl hcm
                      go_wp2
                      go_roundw
                      case rel => exact ⟨q + 1, by omega, rfl, rfl, rfl, by go_num, by first | exact trivial | rfl⟩
                      case measure => simp [intOf]; omega
                    | true =>
                      rw [hhl, Bool.true_and, decide_eq_false_iff_not] at hng
                      rw [hhl] at hcm
                      have hh : Sets.has dn q = false := by revert hcm; cases Sets.has dn q <;> simp
                      rw [hh] at hband
                      have hba : bits .and .i64 ((dn : Int) / (B : Int)) 1 = 0 := by simpa using hband
                      obtain ⟨hdL, hbo⟩ := hyes hh
                      have hle : B ≤ lf := by rw [← hB]; exact Sets.has_le hhl
                      obtain ⟨G2, c2, c3'⟩ := HO4.out.get (d := dn + B) (j := q) (by omega) hdL (by rw [HSN.out]; exact hqk)
                      have hxd : L - (dn + B) = lf - B := by omega
                      rw [HSN.out] at c2
                      rw [hxd] at c3'
                      obtain ⟨r0, r1⟩ := HRB.out (lf - B) q (by omega) hqk
                      have hdl2 : dn + B < L + 1 := by omega
                      obtain ⟨p1, y1, v1, wp1, p1b, hy1, wy1, yn1, c1, hw1, v10, v11⟩ := HCELL.out _ (HRD.out _ HB4.out) q q hqk hqk
                      obtain ⟨p, hp, hpn⟩ := HLAST.out (s - 1) (by omega)
                      have co := HOS.out.cell (s - 1) (by rw [HLO.out]; omega)
                      rw [hp] at co
                      rw [HSN.out] at hpn
                      obtain ⟨p3, y3, v, wp3, p3b, hy3, wy3, yn3, c3, hw3, v30, v31⟩ := HCELL.out _ (HRD.out _ HB4.out) p q hpn hqk
                      have htl : S.toll ⟨os, lf, rm⟩ q = v := by
                        have : os ≠ [] := fun e => by have := HLO.out; rw [e] at this; simp at this; omega
                        unfold Sets.Chg.toll; rw [if_neg this]; show S.w (os.getD (os.length - 1) 0).toNat q = v
                        rw [HLO.out, hp, Int.toNat_natCast]; exact hw3
                      have HTL := Lib.hid htl
                      have hs1' : (s : Int) - 1 = ((s - 1 : Nat) : Int) := by omega
                      generalize s - 1 = sp at *
                      clear hw1 hy1 hw3 hy3 hp htl
                      rw [HTE.out, HTL.out] at hng
                      generalize S.R (lf - B) q = r at *
                      obtain ⟨d, hd⟩ : ∃ d, dn + B = d := ⟨_, rfl⟩
                      rw [hd] at c2 hbo hdl2
                      have hq1 : ((v + r) == rm) = false := by simp; omega
                      rcases (by omega : v + r < rm ∨ rm < v + r) with hlt' | hlt'
                      · clear hng hB hyes hband hh hhl hcm hxd hd
                        go_wp2
                        go_roundw
                        case rel => exact ⟨q + 1, by omega, rfl, rfl, rfl, by go_num, by first | exact trivial | rfl⟩
                        case measure => simp [intOf]; omega
                      · clear hng hB hyes hband hh hhl hcm hxd hd
                        go_wp2
                        go_roundw
                        case rel => exact ⟨q + 1, by omega, rfl, rfl, rfl, by go_num, by first | exact trivial | rfl⟩
                        case measure => simp [intOf]; omega
            · obtain rfl : s = k := by omega
              clear q3 q4 q5 q6 q7 hs hsl
              go_wp2
              go_ret3
              have hend := HFIN.out _ _ _ HOS.out (by have := HGR.out; omega) (by rw [HGR.out]; exact HB4.out)
              rw [HFF.out] at hend
              exact hend
end Go.Proofs.Ytncmhinpjkkfkaa
