/-
  Plain mathematics: products of phasors of 64ths, reckoned out. Conditions: none.
-/
import Derived.Test.YtbphigmpcjodkaaR23
import Derived.Test.YtbphigmpcjodkaaFg
set_option linter.unusedVariables false
set_option linter.unusedSimpArgs false
namespace Go.Proofs.Ytbphigmpcjodkaa
open Go Go.RowKit Flo Val Fb Ff

def T4 : Nat := 4547007122018943789
def leB (g : Nat) : Bool := FloatKind.f64.format.order g T4 == some .lt || FloatKind.f64.format.order g T4 == some .eq
/-- All words of a product and of its nearness. -/
structure Ml (a b c d r s m1 m2 u m3 m4 v un vn uw vw ga gb : Nat) : Prop where
  f_m1 : floatBits .mul .f64 a c = some m1
  f_m2 : floatBits .mul .f64 b d = some m2
  f_u : floatBits .sub .f64 m1 m2 = some u
  f_m3 : floatBits .mul .f64 a d = some m3
  f_m4 : floatBits .mul .f64 b c = some m4
  f_v : floatBits .add .f64 m3 m4 = some v
  f_un : cvo .f64 .f32 u = some un
  f_vn : cvo .f64 .f32 v = some vn
  f_uw : cvo .f32 .f64 un = some uw
  f_vw : cvo .f32 .f64 vn = some vw
  f_ga : gapo uw r = some ga
  f_gb : gapo vw s = some gb
  f_la : leB ga = true
  f_lb : leB gb = true
def mlB (a b c d r s : Nat) : Bool :=
  bo (mulW a c) false fun m1 => bo (mulW b d) false fun m2 => bo (subW m1 m2) false fun u => bo (mulW a d) false fun m3 => bo (mulW b c) false fun m4 => bo (addW m3 m4) false fun v =>
  bo (cvo .f64 .f32 u) false fun un => bo (cvo .f64 .f32 v) false fun vn => bo (cvo .f32 .f64 un) false fun uw => bo (cvo .f32 .f64 vn) false fun vw =>
  bo (gapo uw r) false fun ga => bo (gapo vw s) false fun gb => leB ga && leB gb
theorem ml_of {a b c d r s : Nat} (h : mlB a b c d r s = true) : ∃ m1 m2 u m3 m4 v un vn uw vw ga gb, Ml a b c d r s m1 m2 u m3 m4 v un vn uw vw ga gb := by
  unfold mlB at h
  obtain ⟨m1, h1, h⟩ := bo_true h
  obtain ⟨m2, h2, h⟩ := bo_true h
  obtain ⟨u, h3, h⟩ := bo_true h
  obtain ⟨m3, h4, h⟩ := bo_true h
  obtain ⟨m4, h5, h⟩ := bo_true h
  obtain ⟨v, h6, h⟩ := bo_true h
  obtain ⟨un, h7, h⟩ := bo_true h
  obtain ⟨vn, h8, h⟩ := bo_true h
  obtain ⟨uw, h9, h⟩ := bo_true h
  obtain ⟨vw, h10, h⟩ := bo_true h
  obtain ⟨ga, h11, h⟩ := bo_true h
  obtain ⟨gb, h12, h⟩ := bo_true h
  rw [Bool.and_eq_true] at h
  rw [mulW_eq] at h1 h2 h4 h5; rw [subW_eq] at h3; rw [addW_eq] at h6
  exact ⟨m1, m2, u, m3, m4, v, un, vn, uw, vw, ga, gb, ⟨h1, h2, h3, h4, h5, h6, h7, h8, h9, h10, h11, h12, h.1, h.2⟩⟩
def mlJ (i j : Nat) : Bool := mlB (RW.getD i 0) (IW.getD i 0) (RW.getD j 0) (IW.getD j 0) (RW.getD (Nat.mod (Nat.add i j) 64) 0) (IW.getD (Nat.mod (Nat.add i j) 64) 0)

end Go.Proofs.Ytbphigmpcjodkaa
