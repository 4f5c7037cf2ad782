/-
  Walks: the law PieceEnds: the numbers of its plan, and the reference's function. Conditions: none.
-/
import Derived.Test.YtncmhinpjkkfkaaK27
import Derived.Test.YtncmhinpjkkfkaaK19
import Derived.Test.YtncmhinpjkkfkaaPcs
set_option linter.unusedVariables false
set_option linter.unusedSimpArgs false
namespace Go.Proofs.Ytncmhinpjkkfkaa
open Go Go.RowKit

def relK (js : List J) : Nat → Int
  | 0 => 0
  | k + 1 => max (relK js k) (jN js k).rel
def tmK (js : List J) : Nat → List Int
  | 0 => []
  | k + 1 => tmK js k ++ [(jN js k).time]
def pcB (js : List J) (rule : Int) : Bool := jobsB js && (inB rule 0 1 && decide (relK js js.length + sumT js js.length ≤ 10000))
def pcEnv (js : List J) (rule : Int) (n : Nat) : Pcs.Env := ⟨n, fun i => (jN js i).rel, fun i => (jN js i).due, rule⟩
def pc0 (js : List J) (n : Nat) : Pcs.St := ⟨tmK js n, List.replicate n 0, List.replicate n 0, -1⟩
def pcT (js : List J) (n : Nat) : Nat := (relK js n + sumT js n).toNat
def pcS (js : List J) (rule : Int) (n k : Nat) : Pcs.St := (pcEnv js rule n).at' (pc0 js n) k
def pcE (js : List J) (rule : Int) : List Int := (pcS js rule js.length (pcT js js.length)).ends
def pcP (js : List J) (rule : Int) : List Int := (pcS js rule js.length (pcT js js.length)).pieces

theorem tmK_len (js : List J) : ∀ k, (tmK js k).length = k
  | 0 => rfl
  | k + 1 => by simp [tmK, tmK_len js k]
theorem tmK_get (js : List J) : ∀ k i, i < k → (tmK js k).getD i 0 = (jN js i).time
  | k + 1, i, hi => by
    have hl := tmK_len js k
    show (tmK js k ++ [(jN js k).time]).getD i 0 = _
    rw [List.getD_eq_getElem?_getD]
    by_cases h : i < k
    · rw [List.getElem?_append_left (by omega), ← List.getD_eq_getElem?_getD]
      exact tmK_get js k i h
    · obtain rfl : i = k := by omega
      rw [List.getElem?_append_right (by omega), hl, Nat.sub_self]; rfl
theorem sum_tmK (js : List J) (n : Nat) : ∀ k, k ≤ n → Pcs.Env.sumK (tmK js n) k = sumT js k
  | 0, _ => rfl
  | k + 1, hk => by
    show Pcs.Env.sumK (tmK js n) k + (tmK js n).getD k 0 = sumT js k + (jN js k).time
    rw [sum_tmK js n k (by omega), tmK_get js n k (by omega)]

theorem relK_bd {js : List J} {n : Nat} (h : ∀ i, i < n → 0 ≤ (jN js i).rel ∧ (jN js i).rel ≤ 10000) : ∀ k, k ≤ n → 0 ≤ relK js k ∧ relK js k ≤ 10000 ∧ ∀ i, i < k → (jN js i).rel ≤ relK js k
  | 0, _ => ⟨Int.le_refl _, by show (0 : Int) ≤ 10000; omega, fun i hi => by omega⟩
  | k + 1, hk => by
    have ih := relK_bd h k (by omega)
    have h1 := h k (by omega)
    simp only [relK]
    refine ⟨by omega, by omega, fun i hi => ?_⟩
    by_cases e : i = k
    · subst e; omega
    · have := ih.2.2 i (by omega); omega
theorem sumT_bd {js : List J} {n : Nat} (h : ∀ i, i < n → 1 ≤ (jN js i).time ∧ (jN js i).time ≤ 10000) : ∀ k, k ≤ n → 0 ≤ sumT js k ∧ sumT js k ≤ 10000 * k
  | 0, _ => by simp [sumT]
  | k + 1, hk => by
    have ih := sumT_bd h k (by omega)
    have h1 := h k (by omega)
    simp only [sumT]; omega

/-- What holds at the hour k. -/
structure PcK (n k : Nat) (x : Pcs.St) : Prop where
  l1 : x.left.length = n
  l2 : x.ends.length = n
  l3 : x.pieces.length = n
  lb : ∀ i, i < n → 0 ≤ x.left.getD i 0 ∧ x.left.getD i 0 ≤ 10000
  pb : ∀ i, i < n → 0 ≤ x.pieces.getD i 0 ∧ x.pieces.getD i 0 ≤ k
  la : -1 ≤ x.last ∧ x.last < n

theorem rep_get (n i : Nat) : (List.replicate n (0 : Int)).getD i 0 = 0 := by
  rw [List.getD_eq_getElem?_getD, List.getElem?_replicate]; split <;> rfl
theorem pc_ok {js : List J} {rule : Int} {n : Nat} (ht : ∀ i, i < n → 1 ≤ (jN js i).time ∧ (jN js i).time ≤ 10000) : (pcEnv js rule n).Ok (pc0 js n) :=
  ⟨tmK_len js n, by simp [pc0, pcEnv], by simp [pc0, pcEnv], fun i hi => by
    show 0 ≤ (tmK js n).getD i 0
    rw [tmK_get js n i hi]; have := ht i hi; omega, by show -1 ≤ (-1 : Int) ∧ (-1 : Int) < ((n : Nat) : Int); omega⟩
theorem pcK {js : List J} {rule : Int} {n : Nat} (ht : ∀ i, i < n → 1 ≤ (jN js i).time ∧ (jN js i).time ≤ 10000) (k : Nat) : PcK n k (pcS js rule n k) := by
  have h0 := @pc_ok js rule n ht
  have h := h0.at' k
  have hb := Pcs.Env.at_bd h0 (fun i hi => by show (tmK js n).getD i 0 ≤ 10000; rw [tmK_get js n i hi]; exact (ht i hi).2) (fun i _ => rep_get n i) k
  exact ⟨h.l1, h.l2, h.l3, fun i hi => ⟨(hb i hi).1, (hb i hi).2.1⟩, fun i hi => ⟨(hb i hi).2.2.1, (hb i hi).2.2.2⟩, h.la⟩

/-- The best one after one more. -/
theorem bk_no {js : List J} {rule : Int} {n q : Nat} {l : List Int} {t : Int} (h : l.getD q 0 = 0 ∨ t < (jN js q).rel) : (pcEnv js rule n).bestK l t (q + 1) = (pcEnv js rule n).bestK l t q := by
  have hm : (pcEnv js rule n).may l t q = false := by
    unfold Pcs.Env.may pcEnv
    rcases h with h | h
    · rw [h]; simp
    · rw [decide_eq_false (by show ¬ (jN js q).rel ≤ t; omega)]; rfl
  simp only [Pcs.Env.bestK]
  rw [hm]; rfl
theorem bk_may {js : List J} {rule : Int} {n q : Nat} {l : List Int} {t : Int} (h : l.getD q 0 ≠ 0) (h2 : (jN js q).rel ≤ t) : (pcEnv js rule n).bestK l t (q + 1) = if (pcEnv js rule n).beats l ((pcEnv js rule n).bestK l t q) q then (q : Int) else (pcEnv js rule n).bestK l t q := by
  have hm : (pcEnv js rule n).may l t q = true := by
    unfold Pcs.Env.may pcEnv
    rw [decide_eq_true h2, decide_eq_false h]; rfl
  simp only [Pcs.Env.bestK]
  rw [hm]; rfl
theorem bk_first {js : List J} {rule : Int} {n q : Nat} {l : List Int} {t : Int} (h : l.getD q 0 ≠ 0) (h2 : (jN js q).rel ≤ t) (hb : (pcEnv js rule n).bestK l t q = -1) : (pcEnv js rule n).bestK l t (q + 1) = q := by
  rw [bk_may h h2, hb]
  simp [Pcs.Env.beats]
theorem bk_zero {js : List J} {n q j : Nat} {l : List Int} {t : Int} (h : l.getD q 0 ≠ 0) (h2 : (jN js q).rel ≤ t) (hb : (pcEnv js 0 n).bestK l t q = j) : (pcEnv js 0 n).bestK l t (q + 1) = if l.getD q 0 < l.getD j 0 then (q : Int) else j := by
  rw [bk_may h h2, hb]
  have e : (pcEnv js 0 n).beats l j q = decide (l.getD q 0 < l.getD j 0) := by
    unfold Pcs.Env.beats pcEnv
    rw [decide_eq_false (show ¬ (j : Int) < 0 by omega), Int.toNat_natCast]; simp
  rw [e]
  by_cases hc : l.getD q 0 < l.getD j 0
  · rw [decide_eq_true hc, if_pos rfl, if_pos hc]
  · rw [decide_eq_false hc, if_neg hc, if_neg (by decide)]
theorem bk_one {js : List J} {n q j : Nat} {l : List Int} {t : Int} (h : l.getD q 0 ≠ 0) (h2 : (jN js q).rel ≤ t) (hb : (pcEnv js 1 n).bestK l t q = j) : (pcEnv js 1 n).bestK l t (q + 1) = if (jN js q).due < (jN js j).due then (q : Int) else j := by
  rw [bk_may h h2, hb]
  have e : (pcEnv js 1 n).beats l j q = decide ((jN js q).due < (jN js j).due) := by
    unfold Pcs.Env.beats pcEnv
    rw [decide_eq_false (show ¬ (j : Int) < 0 by omega), Int.toNat_natCast]; simp
  rw [e]
  by_cases hc : (jN js q).due < (jN js j).due
  · rw [decide_eq_true hc, if_pos rfl, if_pos hc]
  · rw [decide_eq_false hc, if_neg hc, if_neg (by decide)]

theorem pc_no {js : List J} {rule : Int} {n k : Nat} {L A P : List Int} {la : Int} (hx : pcS js rule n k = ⟨L, A, P, la⟩) (h : (pcEnv js rule n).bestK L k n = -1) : pcS js rule n (k + 1) = ⟨L, A, P, -1⟩ := by
  show (pcEnv js rule n).step (pcS js rule n k) k = _
  rw [hx]
  exact Pcs.Env.step_no (x := ⟨L, A, P, la⟩) h
theorem pc_yes {js : List J} {rule : Int} {n k j : Nat} {L A P : List Int} {la : Int} (hx : pcS js rule n k = ⟨L, A, P, la⟩) (h : (pcEnv js rule n).bestK L k n = j) : pcS js rule n (k + 1) = ⟨L.set j (L.getD j 0 - 1), A.set j (k + 1), if (j : Int) = la then P else P.set j (P.getD j 0 + 1), j⟩ := by
  show (pcEnv js rule n).step (pcS js rule n k) k = _
  rw [hx]
  exact Pcs.Env.step_yes (x := ⟨L, A, P, la⟩) h

/-- Where work is left the end is not reached; where none is left nothing changes. -/
theorem pc_late {js : List J} {rule : Int} {n k : Nat} (ht : ∀ i, i < n → 1 ≤ (jN js i).time ∧ (jN js i).time ≤ 10000) (hr : ∀ i, i < n → 0 ≤ (jN js i).rel ∧ (jN js i).rel ≤ 10000) (hk : k ≤ pcT js n) (h : 0 < Pcs.Env.sumK (pcS js rule n k).left n) : k < pcT js n := by
  have hR := relK_bd hr n (Nat.le_refl _)
  have hS := sumT_bd ht n (Nat.le_refl _)
  obtain ⟨R, hRe⟩ : ∃ R : Nat, relK js n = R := ⟨(relK js n).toNat, by omega⟩
  obtain ⟨S, hSe⟩ : ∃ S : Nat, sumT js n = S := ⟨(sumT js n).toNat, by omega⟩
  have hT : pcT js n = R + S := by unfold pcT; omega
  by_cases e : k = pcT js n
  · exfalso
    have h1 := Pcs.Env.sum_late (@pc_ok js rule n ht) (L := R) (fun i hi => by have := hR.2.2 i hi; rw [hRe] at this; exact this) S
    have h2 : Pcs.Env.sumK (pc0 js n).left (pcEnv js rule n).n = S := by rw [← hSe]; exact sum_tmK js n n (Nat.le_refl _)
    rw [h2] at h1
    rw [e, hT] at h
    have h3 : Pcs.Env.sumK (pcS js rule n (R + S)).left n ≤ max 0 ((S : Int) - S) := h1
    omega
  · omega
theorem pc_done {js : List J} {rule : Int} {n k : Nat} (ht : ∀ i, i < n → 1 ≤ (jN js i).time ∧ (jN js i).time ≤ 10000) (hk : k ≤ pcT js n) (h : ¬ 0 < Pcs.Env.sumK (pcS js rule n k).left n) : (pcS js rule n (pcT js n)).ends = (pcS js rule n k).ends ∧ (pcS js rule n (pcT js n)).pieces = (pcS js rule n k).pieces := by
  have h0 := @pc_ok js rule n ht
  have hn := (Pcs.Env.sum_nn (h0.at' k) n (Nat.le_refl _)).1
  have hz : Pcs.Env.sumK ((pcEnv js rule n).at' (pc0 js n) k).left (pcEnv js rule n).n = 0 := by
    have h1 : 0 ≤ Pcs.Env.sumK (pcS js rule n k).left n := hn
    show Pcs.Env.sumK (pcS js rule n k).left n = 0
    omega
  have := Pcs.Env.at_done h0 k hz (pcT js n - k)
  rw [show k + (pcT js n - k) = pcT js n by omega] at this
  exact ⟨this.2.1, this.2.2⟩

/-- The two results, each in memory of its own. -/
def PcP (js : List J) (rule : Int) (w : World) (e : Ending) (w' : World) : Prop :=
  ∃ G0 c0 G1 c1, e = .returned (.tuple #[.slice (some ⟨G0, 0, none⟩) (pcE js rule).length c0, .slice (some ⟨G1, 0, none⟩) (pcP js rule).length c1, .bool true]) ∧
    Row w' G0 2 c0 ((pcE js rule).map (Value.int .i64)) ∧ Row w' G1 2 c1 ((pcP js rule).map (Value.int .i64)) ∧ w.heap.size ≤ G0 ∧ w.heap.size ≤ G1 ∧ G1 ≠ G0 ∧ Below w.heap.size w w'
def PcN (w : World) (e : Ending) (w' : World) : Prop := e = .returned (.tuple #[.slice none 0 0, .slice none 0 0, .bool false]) ∧ Below w.heap.size w w'

def PcQ (js : List J) (rule : Int) (w : World) (e : Ending) (w' : World) : Prop := if pcB js rule = true then PcP js rule w e w' else PcN w e w'

theorem jobsB_at {js : List J} (h : jobsB js = true) : ∀ i, i < js.length → (1 ≤ (jN js i).time ∧ (jN js i).time ≤ 10000) ∧ (0 ≤ (jN js i).rel ∧ (jN js i).rel ≤ 10000) ∧ (0 ≤ (jN js i).due ∧ (jN js i).due ≤ 10000) := fun i hi => by
  have q := (jobsB_of h).2.2 i hi
  rw [jN_eq hi]; omega

theorem pcE_len {js : List J} {rule : Int} (h : pcB js rule = true) : (pcE js rule).length ≤ 1048576 ∧ (pcP js rule).length ≤ 1048576 := by
  unfold pcB at h
  rw [Bool.and_eq_true] at h
  have hk := pcK (js := js) (rule := rule) (n := js.length) (fun i hi => (jobsB_at h.1 i hi).1) (pcT js js.length)
  have h2 := (jobsB_of h.1).2.1
  unfold pcE pcP
  rw [hk.l2, hk.l3]; omega
theorem pcE_len1 {js : List J} {rule : Int} (h : pcB js rule = true) : (pcE js rule).length ≤ 1048576 := (pcE_len h).1
theorem pcP_len1 {js : List J} {rule : Int} (h : pcB js rule = true) : (pcP js rule).length ≤ 1048576 := (pcE_len h).2

theorem JRd.at1 {js : List J} {g n : Nat} {w : World} (hn : js.length = n) (hj : JRd w g 0 js) (i : Nat) (hi : i < n) : w.cell? ⟨g, i * 4, none⟩ = some (.int .i64 (jN js i).time) ∧ w.cell? ⟨g, i * 4 + 1, none⟩ = some (.int .i64 (jN js i).rel) ∧ w.cell? ⟨g, i * 4 + 2, none⟩ = some (.int .i64 (jN js i).due) ∧ w.cell? ⟨g, i * 4 + 3, none⟩ = some (.int .i64 (jN js i).wt) := by
  have h := hj i (by omega)
  rw [Nat.zero_add] at h
  rw [jN_eq (by omega)]
  exact h
end Go.Proofs.Ytncmhinpjkkfkaa
