/-
  Plain mathematics: the angle of a point, word by word. Conditions: none.
-/
import Derived.Test.YtbphigmpcjodkaaLg
import Derived.Test.YtbphigmpcjodkaaR10
set_option linter.unusedVariables false
set_option linter.unusedSimpArgs false
namespace Fb
open Ieee Go
open Go.Proofs.Ytbphigmpcjodkaa (sfix)

/-- The quotient of the lesser by the greater is at most 1. -/
theorem quo_one {x y : Nat} {s t : Bool} {m n : Nat} {i j : Int} (hx : double.read x = .number s m i) (hy : double.read y = .number t n j) (hn : 0 < n)
    (h : m * 2 ^ (i - min i j).toNat ≤ n * 2 ^ (j - min i j).toNat) : floatBits .quo .f64 x y = some (F .quo x y) ∧ Bd double 0 (F .quo x y) := by
  obtain ⟨z, hz, hb⟩ := div_one good_double hx hy hn h (in_double (by decide) (by decide))
  have : floatBits .quo .f64 x y = some z := hz
  unfold F; rw [this]; exact ⟨rfl, hb⟩

theorem lo_one : Lo double 0 W1 := by
  refine ⟨4503599627370496, -52, by decide +kernel, ?_⟩
  unfold Ge; decide

/-- One halving of the angle: t / (1 + sqrt(1 + t * t)). -/
def ha (t : Nat) : Nat := F .add W1 (F .mul t t)
def hb (t : Nat) : Nat := F .add W1 (sfix (ha t))
def hf (t : Nat) : Nat := F .quo t (hb t)

structure Hf (t : Nat) : Prop where
  m : floatBits .mul .f64 t t = some (F .mul t t)
  a : floatBits .add .f64 W1 (F .mul t t) = some (ha t)
  s : double.sqrt (ha t) = some (sfix (ha t))
  b : floatBits .add .f64 W1 (sfix (ha t)) = some (hb t)
  q : floatBits .quo .f64 t (hb t) = some (hf t)
  bd : Bd double 0 (hf t)

theorem hf_ok {t : Nat} (h : Bd double 0 t) : Hf t := by
  obtain ⟨z1, e1, b1, n1⟩ := mul_self_nn good_double h (show (0 : Int) + 0 ≤ 0 by decide) (in_double (by decide) (by decide))
  have f1 : F .mul t t = z1 := by unfold F; have : floatBits .mul .f64 t t = some z1 := e1; rw [this]; rfl
  obtain ⟨z2, e2, l2, b2⟩ := add_lo good_double (e' := 1) lo_one n1 (bd_of (by decide +kernel)) b1 (by rw [dbl.1, dbl.2.1]; decide) (in_double (by decide) (by decide))
  have f2 : ha t = z2 := by unfold ha; rw [f1]; unfold F; have : floatBits .add .f64 W1 z1 = some z2 := e2; rw [this]; rfl
  have b2' : ∃ m p, double.read z2 = .number false m p ∧ Le m p 1 := by
    obtain ⟨m, p, h1, _⟩ := l2
    obtain ⟨_, _, _, h2, h3⟩ := b2
    rw [h1] at h2; cases h2
    exact ⟨m, p, h1, h3⟩
  obtain ⟨z3, e3, b3, n3⟩ := sqrt_bd good_double (a := 1) (e := 1) b2' (by decide) (in_double (by decide) (by decide))
  have f3 : sfix (ha t) = z3 := by unfold sfix; rw [f2, e3]; rfl
  obtain ⟨z4, e4, l4, b4⟩ := add_lo good_double (e' := 2) lo_one n3 (bd_of (by decide +kernel)) b3 (by rw [dbl.1, dbl.2.1]; decide) (in_double (by decide) (by decide))
  have f4 : hb t = z4 := by unfold hb; rw [f3]; unfold F; have : floatBits .add .f64 W1 z3 = some z4 := e4; rw [this]; rfl
  obtain ⟨m4, p4, r4, g4⟩ := l4
  obtain ⟨q, qb⟩ := F_quo (e := 0) h (y := z4) ⟨false, m4, p4, r4, g4⟩ (by decide) (by decide) (by decide)
  refine ⟨?_, ?_, ?_, ?_, ?_, ?_⟩
  · rw [f1]; exact e1
  · rw [f1, f2]; exact e2
  · rw [f2, e3, ← f2, f3]
  · rw [f3, f4]; exact e4
  · unfold hf; rw [f4]; exact q
  · unfold hf; rw [f4]; exact qb

def hfK (t : Nat) : Nat → Nat
  | 0 => t
  | k + 1 => hf (hfK t k)
theorem hfK_bd {t : Nat} (h : Bd double 0 t) : ∀ k, Bd double 0 (hfK t k)
  | 0 => h
  | k + 1 => (hf_ok (hfK_bd h k)).bd

/-- 15, 13, .., 1, -1. -/
def Ka (j : Nat) : Nat := cnt (15 - 2 * (j : Int))
def Ca (j : Nat) : Nat := F .quo W1 (Ka j)
theorem ka_step : ∀ j, j < 8 → floatBits .sub .f64 (Ka j) 4611686018427387904 = some (Ka (j + 1)) ∧ floatBits .quo .f64 4607182418800017408 (Ka j) = some (Ca j) ∧ bdB 0 (Ca j) = true := by decide +kernel
theorem ka_test : ∀ j, j < 9 → (double.order (Ka j) 4607182418800017408 == some .gt || double.order (Ka j) 4607182418800017408 == some .eq) = decide (j < 8) := by decide +kernel
theorem ka_int : ∀ j : Nat, j < 8 → floatOfInt .f64 (15 - 2 * (j : Int)) = Ka j := by intro j _; rfl

/-- The series after j terms. -/
def aq (u : Nat) : Nat → Nat
  | 0 => 0
  | j + 1 => F .sub (Ca j) (F .mul u (aq u j))

theorem aq_step {u : Nat} (hu : Bd double 0 u) (j : Nat) (hj : j < 8) (h : Bd double (2 * (j : Int)) (aq u j)) :
    (floatBits .mul .f64 u (aq u j) = some (F .mul u (aq u j)) ∧ floatBits .sub .f64 (Ca j) (F .mul u (aq u j)) = some (aq u (j + 1))) ∧ Bd double (2 * ((j + 1 : Nat) : Int)) (aq u (j + 1)) := by
  obtain ⟨a, hA⟩ := F_mul (e := 2 * (j : Int)) hu h (by omega) (by omega) (by omega)
  obtain ⟨b, hB⟩ := F_sub (e := 2 * ((j + 1 : Nat) : Int)) (bd_of (ka_step j hj).2.2) hA (by omega) (by omega) (by omega) (by omega)
  exact ⟨⟨a, b⟩, hB⟩
theorem aq_bd {u : Nat} (hu : Bd double 0 u) : ∀ j : Nat, j ≤ 8 → Bd double (2 * (j : Int)) (aq u j)
  | 0, _ => (bd_of (by decide +kernel) : Bd double 0 0)
  | j + 1, h => (aq_step hu j (by omega) (aq_bd hu j (by omega))).2

def W8 : Nat := 4620693217682128896
def au (t : Nat) : Nat := F .mul t t
def ap (t : Nat) : Nat := F .mul t (aq (au t) 8)
def a8 (t : Nat) : Nat := F .mul W8 (ap t)
/-- The angle of an eighth. -/
def an (t : Nat) : Nat := F .quo (a8 t) Wturn
def an1 (o : Bool) (v : Nat) : Nat := if o then F .sub Wquarter v else v
def an2 (o : Bool) (v : Nat) : Nat := if o then F .sub Whalf v else v
def an3 (o : Bool) (v : Nat) : Nat := if o then Op.negFloat .f64 v else v
def angF (t : Nat) (o1 o2 o3 : Bool) : Nat := an3 o3 (an2 o2 (an1 o1 (an t)))

structure Af (t : Nat) : Prop where
  u : floatBits .mul .f64 t t = some (au t)
  q : ∀ j, j < 8 → floatBits .mul .f64 (au t) (aq (au t) j) = some (F .mul (au t) (aq (au t) j)) ∧ floatBits .sub .f64 (Ca j) (F .mul (au t) (aq (au t) j)) = some (aq (au t) (j + 1))
  p : floatBits .mul .f64 t (aq (au t) 8) = some (ap t)
  e : floatBits .mul .f64 W8 (ap t) = some (a8 t)
  n : floatBits .quo .f64 (a8 t) Wturn = some (an t)
  bd : Bd double 17 (an t)

theorem af_ok {t : Nat} (h : Bd double 0 t) : Af t := by
  obtain ⟨u, ub⟩ := F_mul (e := 0) h h (by decide) (by decide) (by decide)
  obtain ⟨p, pb⟩ := F_mul (e := 16) h (aq_bd ub 8 (Nat.le_refl _)) (by decide) (by decide) (by decide)
  have w8 : Bd double 3 W8 := bd_of (by decide +kernel)
  obtain ⟨e, eb⟩ := F_mul (e := 19) w8 pb (by decide) (by decide) (by decide)
  obtain ⟨n, nb⟩ := F_quo (e := 17) eb (y := Wturn) (b := 2) (lo_of (by decide +kernel)) (by decide) (by decide) (by decide)
  exact ⟨u, fun j hj => (aq_step ub j hj (aq_bd ub j (by omega))).1, p, e, n, nb⟩

theorem an1_ok {v : Nat} (o : Bool) (h : Bd double 17 v) : floatBits .sub .f64 Wquarter v = some (F .sub Wquarter v) ∧ Bd double 18 (an1 o v) := by
  obtain ⟨a, b⟩ := F_sub (e := 18) consts.2.2.1 h (by decide) (by decide) (by decide) (by decide)
  refine ⟨a, ?_⟩
  unfold an1; split
  · exact b
  · exact h.mono (by decide)
theorem an2_ok {v : Nat} (o : Bool) (h : Bd double 18 v) (hv : v < 2 ^ 64) : floatBits .sub .f64 Whalf v = some (F .sub Whalf v) ∧ Bd double 19 (an2 o v) ∧ an2 o v < 2 ^ 64 := by
  obtain ⟨a, b⟩ := F_sub (e := 19) consts.2.1 h (by decide) (by decide) (by decide) (by decide)
  refine ⟨a, ?_, ?_⟩
  · unfold an2; split
    · exact b
    · exact h.mono (by decide)
  · unfold an2; split
    · exact Format.sub_lt double a
    · exact hv
theorem an1_lt {v : Nat} (o : Bool) (h : Bd double 17 v) (hv : v < 2 ^ 64) : an1 o v < 2 ^ 64 := by
  unfold an1; split
  · exact Format.sub_lt double (an1_ok true h).1
  · exact hv
theorem angF_bd {t : Nat} (h : Bd double 0 t) (o1 o2 o3 : Bool) : Bd double 19 (angF t o1 o2 o3) := by
  have H := af_ok h
  have h1 := an1_ok o1 H.bd
  have l0 : an t < 2 ^ 64 := Format.div_lt double H.n
  have l1 := an1_lt o1 H.bd l0
  have h2 := an2_ok o2 h1.2 l1
  unfold angF an3
  split
  · exact neg_bd h2.2.2 h2.2.1
  · exact h2.2.1
end Fb
