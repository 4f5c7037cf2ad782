/-
  Walks: the least parting to batches: the better one of two, of which it is told which one it is; rows of sums beside the table of entries. Conditions: none.
-/
import Derived.Test.YtncmhinpjkkfkaaK65
set_option linter.unusedVariables false
set_option linter.unusedSimpArgs false
namespace Go.Proofs.Ytncmhinpjkkfkaa
open Go Go.RowKit

def BetQ (a b : Batch.Ent) (sa sb : Value) (w : World) (e : Batch.Ent) (en : Ending) (w' : World) : Prop :=
  Below w.heap.size w w' ∧ ((e = a ∧ en = .returned (.agg #[.bool (eb a), .int .i64 (ec a), sa])) ∨ (e = b ∧ en = .returned (.agg #[.bool (eb b), .int .i64 (ec b), sb])))

set_option maxHeartbeats 4000000 in
set_option maxRecDepth 100000 in
theorem better_any2 (a b : Batch.Ent) (sa sb : Value) (w : World) (ha : Sz w sa (Batch.szs a)) (hb : Sz w sb (Batch.szs b)) (la : (Batch.szs a).length ≤ 1000) (lb : (Batch.szs b).length ≤ 1000) :
    Calls Try.prog 116 #[.agg #[.bool (eb a), .int .i64 (ec a), sa], .agg #[.bool (eb b), .int .i64 (ec b), sb]] w (BetQ a b sa sb w (Batch.better a b)) := by
  have hA : ∀ w', Batch.better a b = a → Below w.heap.size w w' → BetQ a b sa sb w (Batch.better a b) (.returned (.agg #[.bool (eb a), .int .i64 (ec a), sa])) w' := fun w' h1 h2 => ⟨h2, .inl ⟨h1, rfl⟩⟩
  have hB : ∀ w', Batch.better a b = b → Below w.heap.size w w' → BetQ a b sa sb w (Batch.better a b) (.returned (.agg #[.bool (eb b), .int .i64 (ec b), sb])) w' := fun w' h1 h2 => ⟨h2, .inr ⟨h1, rfl⟩⟩
  generalize BetQ a b sa sb w = PQ at *
  obtain ⟨A, cA, rfl, hAt⟩ := ha.form
  obtain ⟨B, cB, rfl, hBt⟩ := hb.form
  have hcmp : ∀ w', Below w.heap.size w w' → Calls Try.prog 134 #[.slice A (Batch.szs a).length cA, .slice B (Batch.szs b).length cB] w' fun e w'' => e = .returned (.int .i64 (Batch.cmpL (Batch.szs a) (Batch.szs b))) ∧ w' = w'' := fun w' h => by
    obtain ⟨A', cA', e1, h1⟩ := (ha.below h).form
    obtain ⟨B', cB', e2, h2⟩ := (hb.below h).form
    injection e1 with e1 _ _
    injection e2 with e2 _ _
    subst e1 e2
    exact compare_any _ _ _ _ _ _ _ _ w' rfl rfl (by omega) (by omega) h1 h2
  clear ha hb hAt hBt
  have HA := Lib.hid hA; have HB := Lib.hid hB; have HCMP := Lib.hid hcmp
  cases b with
  | none =>
    have he : Batch.better a none = a := by cases a <;> rfl
    have HE := Lib.hid he
    have f1 : eb (none : Batch.Ent) = false := rfl
    clear hA hB hcmp he
    generalize (Batch.szs a).length = n at *
    generalize (Batch.szs (none : Batch.Ent)).length = m at *
    rw [f1] at *
    generalize eb a = ta at *
    generalize ec a = ca at *
    generalize ec (none : Batch.Ent) = cb at *
    go_enter Try.func116, Try.ntmps116
    go_wp2
    exact bodyPost_ret (v := .agg #[.bool ta, .int .i64 ca, .slice A n cA]) (by simp [results, Try.results116, go_sem]) rfl (HA.out _ HE.out (three_allocs _ _ _ _))
  | some x =>
    have f1 : eb (some x) = true := rfl
    have f2 : ec (some x) = x.1 := rfl
    cases a with
    | none =>
      have HE : Hid (Batch.better none (some x) = some x) := Lib.hid rfl
      have f3 : eb (none : Batch.Ent) = false := rfl
      clear hA hB hcmp
      rw [f1, f2] at *
      rw [f3] at *
      generalize (Batch.szs (none : Batch.Ent)).length = n at *
      generalize (Batch.szs (some x)).length = m at *
      generalize ec (none : Batch.Ent) = ca at *
      generalize x.1 = cb at *
      go_enter Try.func116, Try.ntmps116
      go_wp2
      exact bodyPost_ret (v := .agg #[.bool true, .int .i64 cb, .slice B m cB]) (by simp [results, Try.results116, go_sem]) rfl (HB.out _ HE.out (three_allocs _ _ _ _))
    | some y =>
      obtain ⟨yc, yl⟩ := y
      obtain ⟨xc, xl⟩ := x
      have hBe := better_some (yc, yl) (xc, xl)
      simp only at hBe
      obtain ⟨v, hv⟩ : ∃ v, Batch.cmpL yl xl = v := ⟨_, rfl⟩
      rw [hv] at hBe
      obtain ⟨n, hn⟩ : ∃ n, yl.length = n := ⟨_, rfl⟩
      obtain ⟨m, hm⟩ : ∃ n, xl.length = n := ⟨_, rfl⟩
      have HA' : Hid (∀ w', Batch.better (some (yc, yl)) (some (xc, xl)) = some (yc, yl) → Below w.heap.size w w' → PQ (Batch.better (some (yc, yl)) (some (xc, xl))) (.returned (.agg #[.bool true, .int .i64 yc, .slice A n cA])) w') := Lib.hid (by rw [← hn]; exact HA.out)
      have HB' : Hid (∀ w', Batch.better (some (yc, yl)) (some (xc, xl)) = some (xc, xl) → Below w.heap.size w w' → PQ (Batch.better (some (yc, yl)) (some (xc, xl))) (.returned (.agg #[.bool true, .int .i64 xc, .slice B m cB])) w') := Lib.hid (by rw [← hm]; exact HB.out)
      have HC' : Hid (∀ w', Below w.heap.size w w' → Calls Try.prog 134 #[.slice A n cA, .slice B m cB] w' fun e w'' => e = .returned (.int .i64 v) ∧ w' = w'') := Lib.hid (by rw [← hn, ← hm, ← hv]; exact HCMP.out)
      show Calls Try.prog 116 #[.agg #[.bool true, .int .i64 yc, .slice A yl.length cA], .agg #[.bool true, .int .i64 xc, .slice B xl.length cB]] w _
      rw [hn, hm]
      clear hA hB hcmp HA HB HCMP f1 f2 la lb hv hn hm
      rcases Int.lt_trichotomy yc xc with h | h | h
      · have HE : Hid (Batch.better (some (yc, yl)) (some (xc, xl)) = some (yc, yl)) := Lib.hid (by rw [hBe, if_pos (.inl h)])
        clear hBe
        go_enter Try.func116, Try.ntmps116
        go_wp2
        exact bodyPost_ret (v := .agg #[.bool true, .int .i64 yc, .slice A n cA]) (by simp [results, Try.results116, go_sem]) rfl (HA'.out _ HE.out (three_allocs _ _ _ _))
      · have h1 : ¬ yc < xc := by omega
        have h2 : (yc == xc) = true := by simp [h]
        by_cases h0 : v ≤ 0
        · have HE : Hid (Batch.better (some (yc, yl)) (some (xc, xl)) = some (yc, yl)) := Lib.hid (by rw [hBe, if_pos (.inr ⟨h, h0⟩)])
          clear hBe h
          go_enter Try.func116, Try.ntmps116
          go_wp2_with (go_at_call 134; refine (HC'.out _ (three_allocs _ _ _ _)).mono ?_; rintro e w' ⟨rfl, rfl⟩)
          exact bodyPost_ret (v := .agg #[.bool true, .int .i64 yc, .slice A n cA]) (by simp [results, Try.results116, go_sem]) rfl (HA'.out _ HE.out (three_allocs _ _ _ _))
        · have HE : Hid (Batch.better (some (yc, yl)) (some (xc, xl)) = some (xc, xl)) := Lib.hid (by rw [hBe, if_neg (by rintro (h3 | ⟨_, h3⟩); exact h1 h3; exact h0 h3)])
          clear hBe h
          go_enter Try.func116, Try.ntmps116
          go_wp2_with (go_at_call 134; refine (HC'.out _ (three_allocs _ _ _ _)).mono ?_; rintro e w' ⟨rfl, rfl⟩)
          exact bodyPost_ret (v := .agg #[.bool true, .int .i64 xc, .slice B m cB]) (by simp [results, Try.results116, go_sem]) rfl (HB'.out _ HE.out (three_allocs _ _ _ _))
      · have h1 : ¬ yc < xc := by omega
        have h2 : (yc == xc) = false := by simp; omega
        have HE : Hid (Batch.better (some (yc, yl)) (some (xc, xl)) = some (xc, xl)) := Lib.hid (by rw [hBe, if_neg (by rintro (h3 | ⟨h3, _⟩) <;> omega)])
        clear hBe h
        go_enter Try.func116, Try.ntmps116
        go_wp2
        exact bodyPost_ret (v := .agg #[.bool true, .int .i64 xc, .slice B m cB]) (by simp [results, Try.results116, go_sem]) rfl (HB'.out _ HE.out (three_allocs _ _ _ _))

theorem BetQ.sizes {a b : Batch.Ent} {sa sb : Value} {w : World} {e : Batch.Ent} {en : Ending} {w' : World} {B : Nat} (h : BetQ a b sa sb w e en w') (ha : SzA w B sa (Batch.szs a)) (hb : SzA w B sb (Batch.szs b)) :
    ∃ A c, en = .returned (.agg #[.bool (eb e), .int .i64 (ec e), .slice A (Batch.szs e).length c]) ∧ SzA w' B (.slice A (Batch.szs e).length c) (Batch.szs e) ∧ Below w.heap.size w w' := by
  obtain ⟨h1, ⟨rfl, rfl⟩ | ⟨rfl, rfl⟩⟩ := h
  · obtain ⟨A, c, e⟩ := ha.form
    subst e; exact ⟨A, c, rfl, ha.below h1, h1⟩
  · obtain ⟨A, c, e⟩ := hb.form
    subst e; exact ⟨A, c, rfl, hb.below h1, h1⟩

/-- The rows of sums and the table of entries. -/
structure Pb (js : List J) (U : Nat) (w : World) (n GT cT GW cW B GO N : Nat) (R : Nat → Nat) (E : Nat → Nat → Batch.Ent) (w' : World) : Prop where
  p : Pre js U w n GT cT GW cW w'
  t : Bt U B w' GO N R E
  gt : GT < GO
  gw : GW < GO
section
variable {js : List J} {U n GT cT GW cW B GO N : Nat} {w : World} {R : Nat → Nat} {E : Nat → Nat → Batch.Ent}
theorem Pb.keep {a b : World} (h : Pb js U w n GT cT GW cW B GO N R E a) (hb : Below a.heap.size a b) : Pb js U w n GT cT GW cW B GO N R E b :=
  ⟨h.p.keep hb, h.t.keep hb, h.gt, h.gw⟩
theorem Pb.dr {a b : World} (h : Pb js U w n GT cT GW cW B GO N R E a) (hd : Dr a b) : Pb js U w n GT cT GW cW B GO N R E b := h.keep hd.below
theorem Pb.to {a : World} {E' : Nat → Nat → Batch.Ent} (h : Pb js U w n GT cT GW cW B GO N R E a) (e : E = E') : Pb js U w n GT cT GW cW B GO N R E' a := e ▸ h
theorem Pb.put {a : World} {S : Batch.Bp} {k b : Nat} {v : Batch.Ent} (h : Pb js U w n GT cT GW cW B GO N R (Es S k b v) a) (hk : k < N) (hb : b < N) (e : Batch.Ent) {sv : Value} (hs : SzA a B sv (Batch.szs e)) :
    Pb js U w n GT cT GW cW B GO N R (Es S k b e) (((a.setCell ⟨R k, b * 3, none⟩ (.bool (eb e))).setCell ⟨R k, b * 3 + 1, none⟩ (.int .i64 (ec e))).setCell ⟨R k, b * 3 + 2, none⟩ sv) := by
  have h1 := h.t.gt k hk
  have h2 := h.gt
  have h3 := h.gw
  have h4 := h.t.u
  exact ⟨((h.p.set _ (by omega) (by omega) (by omega)).set _ (by omega) (by omega) (by omega)).set _ (by omega) (by omega) (by omega), h.t.put hk hb e hs, h.gt, h.gw⟩
theorem Pb.below {a : World} (h : Pb js U w n GT cT GW cW B GO N R E a) : Below U w a := h.p.b
end
/-- A row of four cells that has just been made. -/
theorem row4 {w : World} {a b c d : Value} {T : TypeId} {g : Nat} (hg : g = w.heap.size) : Row (w.alloc (.cells #[a, b, c, d] T)) g T 4 [a, b, c, d] := by
  subst hg; exact ⟨#[a, b, c, d], heap_alloc_new w _, rfl, by simp, by simp [maxLen], rfl⟩
theorem row3 {w : World} {a b c : Value} {T : TypeId} {g : Nat} (hg : g = w.heap.size) : Row (w.alloc (.cells #[a, b, c] T)) g T 3 [a, b, c] := by
  subst hg; exact ⟨#[a, b, c], heap_alloc_new w _, rfl, by simp, by simp [maxLen], rfl⟩
theorem Row.three {w : World} {g : Nat} {T : TypeId} {a b c : Value} (h : Row w g T 3 [a, b, c]) : w.cell? ⟨g, 0, none⟩ = some a ∧ w.cell? ⟨g, 1, none⟩ = some b ∧ w.cell? ⟨g, 2, none⟩ = some c :=
  ⟨h.cell 0 (by simp), h.cell 1 (by simp), h.cell 2 (by simp)⟩
/-- What one more size does. -/
theorem fold_step {S : Batch.Bp} {k b s z d : Nat} (hz : s + 1 = z) (hd : k = d + z) : S.fold (S.T b) k (b + 1) z = Batch.better (S.fold (S.T b) k (b + 1) s) (S.ext k z (b + 1) (S.T b d)) := by
  subst hz
  have e : d = k - (s + 1) := by omega
  subst e
  rfl
theorem ent_pos {S : Batch.Bp} (hw : ∀ k s b, 0 ≤ S.w k s b) {b d : Nat} : 0 ≤ ec (S.T b d) ∧ (S.T b d = none → ec (S.T b d) = 0) := by
  cases h : S.T b d with
  | none => exact ⟨by simp [ec], fun _ => rfl⟩
  | some v => exact ⟨Batch.Bp.T_pos hw b d v.1 v.2 h, fun e => by cases e⟩
theorem fold_len {S : Batch.Bp} {b k s : Nat} : (Batch.szs (S.fold (S.T b) k (b + 1) s)).length ≤ b + 1 := by
  cases h : S.fold (S.T b) k (b + 1) s with
  | none => simp [Batch.szs]
  | some v =>
    obtain ⟨c, l⟩ := v
    obtain ⟨s0, c0, l0, f⟩ := Batch.Bp.fold_found _ c l h
    have := Batch.Bp.szs_len (S := S) b (k - s0)
    rw [f.at'] at this
    show l.length ≤ b + 1
    rw [f.list]
    simpa [Batch.szs] using this
end Go.Proofs.Ytncmhinpjkkfkaa
