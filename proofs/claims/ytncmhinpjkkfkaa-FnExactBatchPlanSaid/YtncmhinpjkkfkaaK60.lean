/-
  Walks: the least parting to batches: what is computed. Conditions: none.
-/
import Derived.Test.YtncmhinpjkkfkaaK38
import Derived.Test.YtncmhinpjkkfkaaBat2
set_option linter.unusedVariables false
set_option linter.unusedSimpArgs false
namespace Go.Proofs.Ytncmhinpjkkfkaa
open Go Go.RowKit

def tmB (js : List J) : Nat → Int
  | 0 => 0
  | k + 1 => tmB js k + (jN js k).time
def wtB (js : List J) : Nat → Int
  | 0 => 0
  | k + 1 => wtB js k + (jN js k).wt
def bpS (js : List J) (ch most : Int) : Batch.Bp := ⟨most.toNat, fun k s b => (wtB js k - wtB js (k - s)) * ((b : Int) * ch + tmB js k)⟩
def bpB (js : List J) (ch most : Int) : Bool := aoB js && (inB ch 0 10000 && inB most 1 24)
def bpL (js : List J) (ch most : Int) : List Int := (Batch.szs (Batch.Bp.best (bpS js ch most) js.length (js.length + 1))).reverse
def bpV (js : List J) (ch most : Int) : Int := Batch.Bp.least (bpS js ch most) js.length (js.length + 1)
def BpP (js : List J) (ch most : Int) (w : World) (e : Ending) (w' : World) : Prop :=
  Res1 w (bpL js ch most) (fun v => .tuple #[v, .int .i64 (bpV js ch most), .bool true]) e w'

theorem jN_big {js : List J} {k : Nat} (h : js.length ≤ k) : jN js k = default := by
  unfold jN; rw [List.getD_eq_getElem?_getD, List.getElem?_eq_none h]; rfl
theorem jN_all {js : List J} (h : ∀ i, i < js.length → JOk (jN js i)) (k : Nat) : 0 ≤ (jN js k).time ∧ (jN js k).time ≤ 10000 ∧ 0 ≤ (jN js k).wt ∧ (jN js k).wt ≤ 10000 := by
  by_cases hk : k < js.length
  · have := h k hk; unfold JOk at this; omega
  · rw [jN_big (by omega)]; decide
theorem tmB_bd {js : List J} (h : ∀ i, i < js.length → JOk (jN js i)) : ∀ k, 0 ≤ tmB js k ∧ tmB js k ≤ 10000 * k
  | 0 => by simp [tmB]
  | k + 1 => by
    have := tmB_bd h k
    have := jN_all h k
    simp only [tmB]; omega
theorem wtB_bd {js : List J} (h : ∀ i, i < js.length → JOk (jN js i)) : ∀ k, 0 ≤ wtB js k ∧ wtB js k ≤ 10000 * k
  | 0 => by simp [wtB]
  | k + 1 => by
    have := wtB_bd h k
    have := jN_all h k
    simp only [wtB]; omega
theorem wtB_mono {js : List J} (h : ∀ i, i < js.length → JOk (jN js i)) : ∀ k s, wtB js (k - s) ≤ wtB js k
  | 0, s => by rw [Nat.zero_sub]; exact Int.le_refl _
  | k + 1, s => by
    have := jN_all h k
    cases s with
    | zero => exact Int.le_refl _
    | succ s =>
      have := wtB_mono h k s
      rw [Nat.add_sub_add_right]
      simp only [wtB]; omega

/-- What the walks want of the numbers. -/
structure BpOk (js : List J) (ch : Int) (S : Batch.Bp) (n : Nat) : Prop where
  n1 : 1 ≤ n
  n2 : n ≤ 24
  m1 : 1 ≤ S.most
  m2 : S.most ≤ 24
  c0 : 0 ≤ ch
  c1 : ch ≤ 10000
  hw : ∀ k s b, 0 ≤ S.w k s b
  w : ∀ k s b, S.w k s b = (wtB js k - wtB js (k - s)) * ((b : Int) * ch + tmB js k)
  tm : ∀ k, k ≤ n → 0 ≤ tmB js k ∧ tmB js k ≤ 240000
  wt : ∀ k, k ≤ n → 0 ≤ wtB js k ∧ wtB js k ≤ 240000
  mono : ∀ k s, wtB js (k - s) ≤ wtB js k
  T : ∀ b k c l, b ≤ n → k ≤ n → S.T b k = some (c, l) → 0 ≤ c ∧ c ≤ 115200000000
  F : ∀ b k s c l, b + 1 ≤ n → k ≤ n → S.fold (S.T b) k (b + 1) s = some (c, l) → 0 ≤ c ∧ c ≤ 115200000000
  wb : ∀ k s b, k ≤ n → b ≤ n → S.w k s b ≤ 115200000000

theorem w_le {W W' T : Int} {b : Nat} {ch : Int} (h1 : W' ≤ W) (hb : b ≤ 24) (c0 : 0 ≤ ch) (c1 : ch ≤ 10000) (t1 : T ≤ 240000) : (W - W') * ((b : Int) * ch + T) ≤ (W - W') * 480000 := by
  refine Int.mul_le_mul_of_nonneg_left ?_ (by omega)
  have h : (b : Int) * ch ≤ 24 * 10000 := Int.mul_le_mul (by omega) c1 c0 (by omega)
  omega

theorem bpOk {js : List J} {ch most : Int} (h : bpB js ch most = true) : BpOk js ch (bpS js ch most) js.length := by
  unfold bpB aoB at h
  simp only [Bool.and_eq_true] at h
  obtain ⟨⟨hj, _⟩, hc, hm⟩ := h
  have hc := inB_lo hc
  have hm := inB_lo hm
  obtain ⟨n1, n2, hok⟩ := jobsB_ok hj
  have ho : ∀ i, i < js.length → JOk (jN js i) := fun i hi => by rw [jN_eq hi]; exact hok i hi
  -- beyond the last job nothing is added
  have hstop : ∀ k, tmB js k ≤ 240000 ∧ wtB js k ≤ 240000 := by
    intro k
    by_cases hk : k ≤ js.length
    · have a := tmB_bd ho k; have b := wtB_bd ho k; omega
    · obtain ⟨d, rfl⟩ : ∃ d, k = js.length + d := ⟨k - js.length, by omega⟩
      have key : ∀ d, tmB js (js.length + d) = tmB js js.length ∧ wtB js (js.length + d) = wtB js js.length := by
        intro d
        induction d with
        | zero => exact ⟨rfl, rfl⟩
        | succ d ih =>
          have e := jN_big (js := js) (k := js.length + d) (by omega)
          rw [← Nat.add_assoc]
          simp only [tmB, wtB, e, ih.1, ih.2]
          exact ⟨Int.add_zero _, Int.add_zero _⟩
      rw [(key d).1, (key d).2]
      have a := tmB_bd ho js.length; have b := wtB_bd ho js.length; omega
  have hw : ∀ k s b, 0 ≤ (bpS js ch most).w k s b := fun k s b => by
    have a := wtB_mono ho k s
    have b' := (tmB_bd ho k).1
    exact Int.mul_nonneg (by omega) (Int.add_nonneg (Int.mul_nonneg (by omega) hc.1) b')
  have hC : ∀ k s b, b ≤ 24 → (bpS js ch most).w k s b ≤ (wtB js k - wtB js (k - s)) * 480000 := fun k s b hb => w_le (wtB_mono ho k s) hb hc.1 hc.2 (hstop k).1
  have hT : ∀ b k c l, b ≤ 24 → (bpS js ch most).T b k = some (c, l) → 0 ≤ c ∧ c ≤ 115200000000 := fun b k c l hb e => by
    have h1 := Batch.Bp.T_bound (Wt := wtB js) hC (by simp [wtB]) b k c l hb e
    have h2 := Batch.Bp.T_pos hw b k c l e
    have h3 := (hstop k).2
    omega
  refine ⟨n1, n2, by show 1 ≤ most.toNat; omega, by show most.toNat ≤ 24; omega, hc.1, hc.2, hw, fun _ _ _ => rfl, fun k _ => ⟨(tmB_bd ho k).1, (hstop k).1⟩, fun k _ => ⟨(wtB_bd ho k).1, (hstop k).2⟩, wtB_mono ho, fun b k c l hb _ e => hT b k c l (by omega) e, fun b k s c l hb _ e => ?_, fun k s b _ hb => ?_⟩
  · have h1 := Batch.Bp.fold_bd hw (Wt := wtB js) hC (by simp [wtB]) (by omega) e
    have h3 := (hstop k).2
    omega
  · have h1 := hC k s b (by omega)
    have h2 := (wtB_bd ho (k - s)).1
    have h3 := (hstop k).2
    omega
end Go.Proofs.Ytncmhinpjkkfkaa
