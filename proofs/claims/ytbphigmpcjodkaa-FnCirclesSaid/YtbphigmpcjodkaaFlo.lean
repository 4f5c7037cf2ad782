/-
  Floats in a walk: each operation gives a word that is the plain operation's, or both are NaNs; the world is as it was but for draws. Conditions: none.
-/
import Derived.WalkKit
import Derived.WalkLawsBesides
import Derived.Deep.Draws
set_option linter.unusedVariables false
set_option linter.unusedSimpArgs false
namespace Go.Proofs.Ytbphigmpcjodkaa
open Go Go.RowKit

namespace Flo

/-- A word that stands for a NaN. -/
def isNaN (k : FloatKind) (x : Nat) : Bool := (k.decode x).isNaN

/-- The quiet NaN. -/
def nanW : FloatKind → Nat
  | .f32 => 0x7fc00000
  | .f64 => 0x7ff8000000000000

/-- The same word, or both NaNs. -/
def Like (k : FloatKind) (x y : Nat) : Prop := x = y ∨ (isNaN k x = true ∧ isNaN k y = true)

/-- The plain operation; a NaN where it has no answer. -/
def fop (op : BinOp) (k : FloatKind) (x y : Nat) : Nat := (floatBits op k x y).getD (nanW k)

/-- What the operation gives in a world. -/
def fres (op : BinOp) (k : FloatKind) (w : World) (x y : Nat) : Nat :=
  (floatBits op k x y).getD ((Question.nanBits k x y).cut (w.tape w.drawn (.nanBits k x y)))

def fcnt (op : BinOp) (k : FloatKind) (x y : Nat) : Nat := if (floatBits op k x y).isSome then 0 else 1

theorem read_nan (f : Ieee.Format) (s m : Nat) (hp : f.binade ≤ f.infRung) (h : f.infRung < m) (hm : m < f.signWeight) : (f.read (s * f.signWeight + m)).isNaN = true := by
  have hb := f.infRung_add_binade
  have hmod : (s * f.signWeight + m) % f.signWeight = m := by rw [Nat.mul_comm, Nat.mul_add_mod, Nat.mod_eq_of_lt hm]
  unfold Ieee.Format.read
  dsimp only
  rw [hmod]
  split
  · rename_i hlt
    exfalso
    omega
  · rw [if_neg (by omega), if_neg (by omega)]
    rfl

theorem nan32 (t : Nat) : isNaN .f32 ((t % 2) * 2 ^ 31 + 0x7f800000 + 1 + (t / 2) % (2 ^ 23 - 1)) = true := by
  have h : (t / 2) % (2 ^ 23 - 1) < 2 ^ 23 - 1 := Nat.mod_lt _ (by decide)
  generalize (t / 2) % (2 ^ 23 - 1) = x at h
  generalize t % 2 = s
  have e : s * 2 ^ 31 + 0x7f800000 + 1 + x = s * Ieee.single.signWeight + (0x7f800000 + 1 + x) := by
    show _ = s * 2 ^ 31 + _; omega
  rw [e]
  have e2 : Ieee.single.infRung = 0x7f800000 := by decide
  have e3 : Ieee.single.signWeight = 0x80000000 := by decide
  exact read_nan Ieee.single s _ (by decide) (by rw [e2]; omega) (by rw [e3]; omega)

theorem nan64 (t : Nat) : isNaN .f64 ((t % 2) * 2 ^ 63 + 0x7ff0000000000000 + 1 + (t / 2) % (2 ^ 52 - 1)) = true := by
  have h : (t / 2) % (2 ^ 52 - 1) < 2 ^ 52 - 1 := Nat.mod_lt _ (by decide)
  generalize (t / 2) % (2 ^ 52 - 1) = x at h
  generalize t % 2 = s
  have e : s * 2 ^ 63 + 0x7ff0000000000000 + 1 + x = s * Ieee.double.signWeight + (0x7ff0000000000000 + 1 + x) := by
    show _ = s * 2 ^ 63 + _; omega
  rw [e]
  have e2 : Ieee.double.infRung = 0x7ff0000000000000 := by decide +kernel
  have e3 : Ieee.double.signWeight = 0x8000000000000000 := by decide +kernel
  exact read_nan Ieee.double s _ (by decide +kernel) (by rw [e2]; omega) (by rw [e3]; omega)

theorem nan_nanW (k : FloatKind) : isNaN k (nanW k) = true := by cases k <;> decide +kernel

theorem nan_cut (k : FloatKind) (x y t : Nat) : isNaN k ((Question.nanBits k x y).cut t) = true := by
  cases k
  · exact nan32 t
  · exact nan64 t

theorem nan_conv (k : FloatKind) (x t : Nat) : isNaN k ((Question.nanConv k x).cut t) = true := by
  cases k
  · exact nan32 t
  · exact nan64 t

theorem Like.refl (k : FloatKind) (x : Nat) : Like k x x := .inl rfl
theorem Like.symm {k : FloatKind} {x y : Nat} (h : Like k x y) : Like k y x := by
  rcases h with h | h
  · exact .inl h.symm
  · exact .inr ⟨h.2, h.1⟩
theorem Like.trans {k : FloatKind} {x y z : Nat} (h : Like k x y) (g : Like k y z) : Like k x z := by
  rcases h with rfl | h
  · exact g
  · rcases g with rfl | g
    · exact .inr h
    · exact .inr ⟨h.1, g.2⟩

theorem like_fres (op : BinOp) (k : FloatKind) (w : World) (x y : Nat) : Like k (fres op k w x y) (fop op k x y) := by
  unfold fres fop
  cases floatBits op k x y with
  | some r => exact .inl rfl
  | none => exact .inr ⟨nan_cut .., nan_nanW k⟩

theorem floatBits_nan_left {op : BinOp} {k : FloatKind} {x y : Nat} (h : isNaN k x = true) : floatBits op k x y = none := by
  unfold isNaN FloatKind.decode at h
  have e : ∃ s t, k.format.read x = .nan s t := by
    cases hr : k.format.read x <;> simp_all [Ieee.Datum.isNaN]
  obtain ⟨s, t, e⟩ := e
  unfold floatBits
  cases op <;> simp [Ieee.Format.add, Ieee.Format.sub, Ieee.Format.mul, Ieee.Format.div, e, Ieee.Datum.sum, Ieee.Datum.product, Ieee.Datum.quotient]

theorem floatBits_nan_right {op : BinOp} {k : FloatKind} {x y : Nat} (h : isNaN k y = true) : floatBits op k x y = none := by
  unfold isNaN FloatKind.decode at h
  have e : ∃ s t, k.format.read y = .nan s t := by
    cases hr : k.format.read y <;> simp_all [Ieee.Datum.isNaN]
  obtain ⟨s, t, e⟩ := e
  unfold floatBits
  cases op <;> cases hx : k.format.read x <;> simp [Ieee.Format.add, Ieee.Format.sub, Ieee.Format.mul, Ieee.Format.div, e, hx, Ieee.Datum.sum, Ieee.Datum.product, Ieee.Datum.quotient, Ieee.Datum.opposite]

theorem fop_like {op : BinOp} {k : FloatKind} {x x' y y' : Nat} (hx : Like k x x') (hy : Like k y y') : Like k (fop op k x y) (fop op k x' y') := by
  rcases hx with rfl | ⟨h1, h2⟩
  · rcases hy with rfl | ⟨h1, h2⟩
    · exact .refl _ _
    · unfold fop; rw [floatBits_nan_right h1, floatBits_nan_right h2]; exact .refl _ _
  · unfold fop; rw [floatBits_nan_left h1, floatBits_nan_left h2]; exact .refl _ _

theorem fres_like {op : BinOp} {k : FloatKind} {w : World} {x x' y y' : Nat} (hx : Like k x x') (hy : Like k y y') : Like k (fres op k w x y) (fop op k x' y') :=
  (like_fres ..).trans (fop_like hx hy)

theorem order_like {k : FloatKind} {x x' y y' : Nat} (hx : Like k x x') (hy : Like k y y') : k.format.order x y = k.format.order x' y' := by
  have nl : ∀ {x y}, isNaN k x = true → k.format.order x y = none := by
    intro x y h
    unfold isNaN FloatKind.decode at h
    obtain ⟨s, t, e⟩ : ∃ s t, k.format.read x = .nan s t := by
      cases hr : k.format.read x <;> simp_all [Ieee.Datum.isNaN]
    simp [Ieee.Format.order, e, Ieee.Datum.order]
  have nr : ∀ {x y}, isNaN k y = true → k.format.order x y = none := by
    intro x y h
    unfold isNaN FloatKind.decode at h
    obtain ⟨s, t, e⟩ : ∃ s t, k.format.read y = .nan s t := by
      cases hr : k.format.read y <;> simp_all [Ieee.Datum.isNaN]
    cases hx : k.format.read x <;> simp [Ieee.Format.order, e, hx, Ieee.Datum.order]
  rcases hx with rfl | ⟨h1, h2⟩
  · rcases hy with rfl | ⟨h1, h2⟩
    · rfl
    · rw [nr h1, nr h2]
  · rw [nl h1, nl h2]

section
variable {P : Program} (w : World)

theorem run_fop (op : BinOp) (hop : op = .add ∨ op = .sub ∨ op = .mul ∨ op = .quo) (t : TypeId) (k : FloatKind) (x y : Nat) :
    (binOp op t (.float k x) (.float k y)).run P w = .ok (.float k (fres op k w x y)) (w.drewN (fcnt op k x y)) := by
  cases h : floatBits op k x y with
  | some r =>
    rw [run_float_arith w op t k x y r h]
    simp [fres, fcnt, h, World.drewN_zero]
  | none =>
    unfold floatBits at h
    rcases hop with rfl | rfl | rfl | rfl <;> simp only at h <;>
      simp [binOp, Op.floatArith, h, fres, fcnt, floatBits, choose, Sem.run, Question.forced, World.drewN]

theorem run_fadd (t : TypeId) (k : FloatKind) (x y : Nat) : (binOp .add t (.float k x) (.float k y)).run P w = .ok (.float k (fres .add k w x y)) (w.drewN (fcnt .add k x y)) := run_fop w .add (by simp) t k x y
theorem run_fsub (t : TypeId) (k : FloatKind) (x y : Nat) : (binOp .sub t (.float k x) (.float k y)).run P w = .ok (.float k (fres .sub k w x y)) (w.drewN (fcnt .sub k x y)) := run_fop w .sub (by simp) t k x y
theorem run_fmul (t : TypeId) (k : FloatKind) (x y : Nat) : (binOp .mul t (.float k x) (.float k y)).run P w = .ok (.float k (fres .mul k w x y)) (w.drewN (fcnt .mul k x y)) := run_fop w .mul (by simp) t k x y
theorem run_fquo (t : TypeId) (k : FloatKind) (x y : Nat) : (binOp .quo t (.float k x) (.float k y)).run P w = .ok (.float k (fres .quo k w x y)) (w.drewN (fcnt .quo k x y)) := run_fop w .quo (by simp) t k x y

/-- What a conversion between the two kinds gives. -/
def cres (s d : FloatKind) (w : World) (b : Nat) : Nat :=
  if s = d then b else
  match s.decode b with
  | .nan _ _ => (Question.nanConv d b).cut (w.tape w.drawn (.nanConv d b))
  | .infinity g => d.encode (.infinity g)
  | .number g m e => if (d.decode (d.encode (.number g m e))).isInfinity then (Question.floatToFloat b).cut (w.tape w.drawn (.floatToFloat b)) else d.encode (.number g m e)

def ccnt (s d : FloatKind) (b : Nat) : Nat :=
  if s = d then 0 else
  match s.decode b with
  | .nan _ _ => 1
  | .infinity _ => 0
  | .number g m e => if (d.decode (d.encode (.number g m e))).isInfinity then 1 else 0

/-- The plain conversion. -/
def fconv (s d : FloatKind) (b : Nat) : Nat :=
  if s = d then b else
  match s.decode b with
  | .nan _ _ => nanW d
  | x => d.encode x

/-- The language leaves this conversion open. -/
def tooGreat (s d : FloatKind) (b : Nat) : Bool :=
  if s = d then false else
  match s.decode b with
  | .number g m e => (d.decode (d.encode (.number g m e))).isInfinity
  | _ => false

theorem run_fconv (src dst : TypeId) (s k : FloatKind) (b : Nat) (hs : (P.underlying src).isSome = true) (hd : P.underlying dst = some (.float k)) :
    (convert src dst (.float s b)).run P w = .ok (.float k (cres s k w b)) (w.drewN (ccnt s k b)) := by
  obtain ⟨u, hs'⟩ := Option.isSome_iff_exists.1 hs
  by_cases hk : s = k
  · subst hk
    cases u <;> simp [convert, run_underlying hs', run_underlying hd, Conv.floatToFloat, cres, ccnt, World.drewN_zero]
  · cases he : s.decode b with
    | nan g t => cases u <;> simp [convert, run_underlying hs', run_underlying hd, Conv.floatToFloat, cres, ccnt, hk, he, choose, Sem.run, Question.forced, World.drewN]
    | infinity g => cases u <;> simp [convert, run_underlying hs', run_underlying hd, Conv.floatToFloat, cres, ccnt, hk, he, World.drewN_zero]
    | number g m e =>
      by_cases ho : (k.decode (k.encode (.number g m e))).isInfinity = true
      · cases u <;> simp [convert, run_underlying hs', run_underlying hd, Conv.floatToFloat, cres, ccnt, hk, he, ho, choose, Sem.run, Question.forced, World.drewN]
      · cases u <;> simp [convert, run_underlying hs', run_underlying hd, Conv.floatToFloat, cres, ccnt, hk, he, ho, World.drewN_zero]

theorem like_cres {s d : FloatKind} {w : World} {b : Nat} (h : tooGreat s d b = false) : Like d (cres s d w b) (fconv s d b) := by
  unfold cres fconv
  unfold tooGreat at h
  by_cases hk : s = d
  · simp only [if_pos hk]; exact .refl _ _
  · simp only [if_neg hk] at h ⊢
    cases he : s.decode b with
    | nan g t => exact .inr ⟨nan_conv .., nan_nanW _⟩
    | infinity g => exact .refl _ _
    | number g m e =>
      simp only [he] at h
      simp only [h]
      exact .refl _ _

theorem decode_nan {k : FloatKind} {x : Nat} (h : isNaN k x = true) : ∃ s t, k.decode x = .nan s t := by
  unfold isNaN at h
  cases hr : k.decode x <;> simp_all [Ieee.Datum.isNaN]

theorem fconv_like {s d : FloatKind} {b b' : Nat} (h : Like s b b') : Like d (fconv s d b) (fconv s d b') := by
  rcases h with rfl | ⟨h1, h2⟩
  · exact .refl _ _
  · by_cases hk : s = d
    · subst hk; unfold fconv; simp only [if_pos]; exact .inr ⟨h1, h2⟩
    · obtain ⟨_, _, e1⟩ := decode_nan h1
      obtain ⟨_, _, e2⟩ := decode_nan h2
      unfold fconv; simp only [if_neg hk, e1, e2]; exact .refl _ _

theorem tooGreat_like {s d : FloatKind} {b b' : Nat} (h : Like s b b') : tooGreat s d b = tooGreat s d b' := by
  rcases h with rfl | ⟨h1, h2⟩
  · rfl
  · obtain ⟨_, _, e1⟩ := decode_nan h1
    obtain ⟨_, _, e2⟩ := decode_nan h2
    unfold tooGreat; simp only [e1, e2]
end
end Flo
end Go.Proofs.Ytbphigmpcjodkaa
