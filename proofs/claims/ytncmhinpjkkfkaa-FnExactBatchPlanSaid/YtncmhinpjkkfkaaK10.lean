/-
  Walks: what orders of jobs cost. Conditions: none.
-/
import Derived.Test.YtncmhinpjkkfkaaK9
set_option linter.unusedVariables false
set_option linter.unusedSimpArgs false
namespace Go.Proofs.Ytncmhinpjkkfkaa
open Go Go.RowKit

def partV (kind : Int) (j : J) (t : Int) : Int :=
  if kind = 0 then t else if kind = 1 then j.wt * t else if kind = 2 then t - j.due else if kind = 3 then j.wt * max 0 (t - j.due) else if j.due < t then 1 else 0
def bothV (kind a b : Int) : Int := if kind = 0 ∨ kind = 2 then max a b else a + b

/-- A valid job's numbers. -/
def JOk (j : J) : Prop := 1 ≤ j.time ∧ j.time ≤ 10000 ∧ 0 ≤ j.rel ∧ j.rel ≤ 10000 ∧ 0 ≤ j.due ∧ j.due ≤ 10000 ∧ 0 ≤ j.wt ∧ j.wt ≤ 10000

theorem prod_bd {a b : Int} (a0 : 0 ≤ a) (a1 : a ≤ 10000) (b0 : 0 ≤ b) (b1 : b ≤ 1000000) : 0 ≤ a * b ∧ a * b ≤ 10000000000 := by
  refine ⟨Int.mul_nonneg a0 b0, ?_⟩
  have h1 : a * b ≤ 10000 * b := Int.mul_le_mul_of_nonneg_right a1 b0
  omega

theorem partV_bd {kind : Int} {j : J} {t : Int} (hj : JOk j) (t0 : 0 ≤ t) (t1 : t ≤ 1000000) : -10000 ≤ partV kind j t ∧ partV kind j t ≤ 10000000000 := by
  obtain ⟨a1, a2, a3, a4, a5, a6, a7, a8⟩ := hj
  have p1 := prod_bd a7 a8 t0 t1
  have p2 := prod_bd (a := j.wt) (b := max 0 (t - j.due)) a7 a8 (by omega) (by omega)
  unfold partV
  split
  · omega
  · split
    · omega
    · split
      · omega
      · split
        · omega
        · split <;> omega

set_option maxHeartbeats 2000000 in
set_option maxRecDepth 100000 in
theorem l02Part_any (kind : Int) (k0 : 0 ≤ kind) (k1 : kind ≤ 4) (g p : Nat) (j : J) (t : Int) (w : World) (hj : JOk j) (t0 : 0 ≤ t) (t1 : t ≤ 1000000)
    (c2 : w.cell? ⟨g, p + 2, none⟩ = some (.int .i64 j.due)) (c3 : w.cell? ⟨g, p + 3, none⟩ = some (.int .i64 j.wt)) :
    Calls Try.prog 118 #[.pointer (some ⟨g, p, none⟩), .int .i64 t, .int .i64 kind] w fun e w' => e = .returned (.int .i64 (partV kind j t)) ∧ Dr w w' := by
  obtain ⟨a1, a2, a3, a4, a5, a6, a7, a8⟩ := hj
  have p1 := prod_bd a7 a8 t0 t1
  have p2 := prod_bd (a := j.wt) (b := max 0 (t - j.due)) a7 a8 (by omega) (by omega)
  obtain ⟨q1, q2⟩ := p1
  obtain ⟨q3, q4⟩ := p2
  have hk : kind = 0 ∨ kind = 1 ∨ kind = 2 ∨ kind = 3 ∨ kind = 4 := by omega
  clear k0 k1
  rcases hk with rfl | rfl | rfl | rfl | rfl
  · go_enter Try.func118, Try.ntmps118
    go_wp2
    go_ret
    exact ⟨rfl, .refl _⟩
  · go_enter Try.func118, Try.ntmps118
    go_wp2
    go_ret
    exact ⟨rfl, .refl _⟩
  · go_enter Try.func118, Try.ntmps118
    go_wp2
    go_ret
    exact ⟨rfl, .refl _⟩
  · have w1 : IntKind.i64.wrap (t - j.due) = t - j.due := IntWalk.i64_in _ (by omega)
    have w2 : IntKind.i64.wrap (j.wt * max 0 (t - j.due)) = j.wt * max 0 (t - j.due) := IntWalk.i64_in _ (by omega)
    go_enter Try.func118, Try.ntmps118
    go_wp2
    go_quiet ((go_at_call 97; exact quiet_eq (l00Max_any _ _ _)))
    go_wp2
    go_ret
    exact ⟨rfl, .one _ _⟩
  · by_cases h : j.due < t
    · go_enter Try.func118, Try.ntmps118
      go_wp2
      go_ret
      exact ⟨ret_int (by unfold partV; simp [h]), .refl _⟩
    · have e : partV 4 j t = 0 := by unfold partV; simp; omega
      have E := Lib.hid e; clear e
      go_enter Try.func118, Try.ntmps118
      go_wp2
      go_ret
      exact ⟨ret_int E.out.symm, .refl _⟩

set_option maxHeartbeats 2000000 in
set_option maxRecDepth 100000 in
theorem share_any (kind : Int) (k0 : 0 ≤ kind) (k1 : kind ≤ 4) (a b c d : Int) (t : Int) (w : World) (hj : JOk ⟨a, b, c, d⟩) (t0 : 0 ≤ t) (t1 : t ≤ 1000000) :
    Calls Try.prog 121 #[.agg #[.int .i64 a, .int .i64 b, .int .i64 c, .int .i64 d], .int .i64 kind, .int .i64 t] w fun e w' => e = .returned (.int .i64 (partV kind ⟨a, b, c, d⟩ t)) ∧ Below w.heap.size w w' := by
  obtain ⟨a1, a2, a3, a4, a5, a6, a7, a8⟩ := hj
  simp only at a1 a2 a3 a4 a5 a6 a7 a8
  have p1 := prod_bd a7 a8 t0 t1
  obtain ⟨q1, q2⟩ := p1
  have hk : kind = 0 ∨ kind = 1 ∨ kind = 2 ∨ kind = 3 ∨ kind = 4 := by omega
  clear k0 k1
  rcases hk with rfl | rfl | rfl | rfl | rfl
  · go_enter Try.func121, Try.ntmps121
    go_wp2
    go_ret
    exact ⟨rfl, (Below.refl _ _).alloc (Nat.le_refl _) _⟩
  · go_enter Try.func121, Try.ntmps121
    go_wp2
    go_ret
    exact ⟨rfl, (Below.refl _ _).alloc (Nat.le_refl _) _⟩
  · go_enter Try.func121, Try.ntmps121
    go_wp2
    go_ret
    exact ⟨rfl, (Below.refl _ _).alloc (Nat.le_refl _) _⟩
  · by_cases h : 0 < t - c
    · have p2 := prod_bd (a := d) (b := t - c) a7 a8 (by omega) (by omega)
      obtain ⟨q3, q4⟩ := p2
      have e : partV 3 ⟨a, b, c, d⟩ t = d * (t - c) := by unfold partV; simp; rw [show max 0 (t - c) = t - c by omega]
      have E := Lib.hid e; clear e
      go_enter Try.func121, Try.ntmps121
      go_wp2
      go_ret
      exact ⟨ret_int E.out.symm, (Below.refl _ _).alloc (Nat.le_refl _) _⟩
    · have e : partV 3 ⟨a, b, c, d⟩ t = 0 := by unfold partV; simp; rw [show max 0 (t - c) = 0 by omega]; simp
      have E := Lib.hid e; clear e
      go_enter Try.func121, Try.ntmps121
      go_wp2
      go_ret
      exact ⟨ret_int E.out.symm, (Below.refl _ _).alloc (Nat.le_refl _) _⟩
  · by_cases h : c < t
    · have e : partV 4 ⟨a, b, c, d⟩ t = 1 := by unfold partV; simp [h]
      have E := Lib.hid e; clear e
      go_enter Try.func121, Try.ntmps121
      go_wp2
      go_ret
      exact ⟨ret_int E.out.symm, (Below.refl _ _).alloc (Nat.le_refl _) _⟩
    · have e : partV 4 ⟨a, b, c, d⟩ t = 0 := by unfold partV; simp; omega
      have E := Lib.hid e; clear e
      go_enter Try.func121, Try.ntmps121
      go_wp2
      go_ret
      exact ⟨ret_int E.out.symm, (Below.refl _ _).alloc (Nat.le_refl _) _⟩

theorem l02Both_any (kind : Int) (k0 : 0 ≤ kind) (k1 : kind ≤ 4) (a b : Int) (w : World) (a0 : -1000000000000 ≤ a) (a1 : a ≤ 1000000000000) (b0 : -1000000000000 ≤ b) (b1 : b ≤ 1000000000000) :
    Calls Try.prog 119 #[.int .i64 a, .int .i64 b, .int .i64 kind] w fun e w' => e = .returned (.int .i64 (bothV kind a b)) ∧ w = w' := by
  have hk : kind = 0 ∨ kind = 1 ∨ kind = 2 ∨ kind = 3 ∨ kind = 4 := by omega
  clear k0 k1
  rcases hk with rfl | rfl | rfl | rfl | rfl
  all_goals
    go_enter Try.func119, Try.ntmps119
    go_wp2_with (go_at_call 97; refine (l00Max_any _ _ _).mono ?_; rintro e w' ⟨rfl, rfl⟩)
    go_ret
    exact ⟨rfl, rfl⟩

theorem isGreatest_any (kind : Int) (k0 : 0 ≤ kind) (k1 : kind ≤ 4) (w : World) : Calls Try.prog 135 #[.int .i64 kind] w fun e w' => e = .returned (.bool (decide (kind = 0 ∨ kind = 2))) ∧ w = w' := by
  have hk : kind = 0 ∨ kind = 1 ∨ kind = 2 ∨ kind = 3 ∨ kind = 4 := by omega
  clear k0 k1
  rcases hk with rfl | rfl | rfl | rfl | rfl
  all_goals
    go_enter Try.func135, Try.ntmps135
    go_wp2
    go_ret
    exact ⟨rfl, rfl⟩

theorem implBoth_any (kind : Int) (k0 : 0 ≤ kind) (k1 : kind ≤ 4) (a b : Int) (w : World) (a0 : -1000000000000 ≤ a) (a1 : a ≤ 1000000000000) (b0 : -1000000000000 ≤ b) (b1 : b ≤ 1000000000000) :
    Calls Try.prog 122 #[.int .i64 kind, .int .i64 a, .int .i64 b] w fun e w' => e = .returned (.int .i64 (bothV kind a b)) ∧ w = w' := by
  by_cases hg : kind = 0 ∨ kind = 2
  · have e : bothV kind a b = max a b := by unfold bothV; rw [if_pos hg]
    have hd : decide (kind = 0 ∨ kind = 2) = true := decide_eq_true hg
    have E := Lib.hid e; have HD := Lib.hid hd; clear e hg hd
    by_cases h : a < b
    · have hm : max a b = b := by omega
      have HM := Lib.hid hm; clear hm
      go_enter Try.func122, Try.ntmps122
      go_wp2_with (go_at_call 135; refine (isGreatest_any _ k0 k1 _).mono ?_; rintro e w' ⟨rfl, rfl⟩; rw [HD.out])
      go_ret
      exact ⟨ret_int (by rw [E.out, HM.out]), rfl⟩
    · have hm : max a b = a := by omega
      have HM := Lib.hid hm; clear hm
      go_enter Try.func122, Try.ntmps122
      go_wp2_with (go_at_call 135; refine (isGreatest_any _ k0 k1 _).mono ?_; rintro e w' ⟨rfl, rfl⟩; rw [HD.out])
      go_ret
      exact ⟨ret_int (by rw [E.out, HM.out]), rfl⟩
  · have e : bothV kind a b = a + b := by unfold bothV; rw [if_neg hg]
    have hd : decide (kind = 0 ∨ kind = 2) = false := decide_eq_false hg
    have E := Lib.hid e; have HD := Lib.hid hd; clear e hg hd
    go_enter Try.func122, Try.ntmps122
    go_wp2_with (go_at_call 135; refine (isGreatest_any _ k0 k1 _).mono ?_; rintro e w' ⟨rfl, rfl⟩; rw [HD.out])
    go_ret
    exact ⟨ret_int E.out.symm, rfl⟩
end Go.Proofs.Ytncmhinpjkkfkaa
