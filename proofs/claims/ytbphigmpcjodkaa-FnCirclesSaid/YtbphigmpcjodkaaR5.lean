/-
  Walks: the fraction and the sine of a number of turns. Conditions: none.
-/
import Derived.Test.YtbphigmpcjodkaaR3
import Derived.Test.YtbphigmpcjodkaaSn
set_option linter.unusedVariables false
set_option linter.unusedSimpArgs false
namespace Go.Proofs.Ytbphigmpcjodkaa
open Go Go.RowKit Flo Val Fb

attribute [local go_sem] run_store_float run_fadd run_fsub run_fmul run_fquo run_fconv World.drewN_zero

theorem ret_float {k : FloatKind} {a b : Nat} (h : a = b) : Ending.returned (.float k a) = .returned (.float k b) := by rw [h]

/-- A number of turns that is not too great: its whole part, and what is left. -/
structure Tn (y : Nat) (I : Int) (f0 : Nat) : Prop where
  conv : ∀ w, (convert 28 2 (.float .f64 y)).run Try.prog w = .ok (.int .i64 I) w
  sub : floatBits .sub .f64 y (floatOfInt .f64 I) = some f0
  bd : Bd Ieee.double 1 f0

theorem tn_of {y : Nat} {s : Bool} {m d : Nat} (hy : Ieee.double.read y = .number s m (-(d : Int))) (hd : 0 < d) (hm : m / 2 ^ d < 2 ^ 53) : ∃ I f0, Tn y I f0 := by
  obtain ⟨z, hz, hb⟩ := frac_bd' hy hd hm
  refine ⟨if s then -((m / 2 ^ d : Nat) : Int) else ((m / 2 ^ d : Nat) : Int), z, fun w => ?_, ?_, hb⟩
  · refine run_convert_float_int w 28 2 .f64 .i64 y _ (by rw [Try.underlying28]; rfl) Try.underlying2 ?_
    unfold floatToIntVal
    have hdd : FloatKind.f64.decode y = Ieee.double.read y := rfl
    rw [hdd, hy, toInt_zero hd]
    dsimp only
    rw [if_pos]
    generalize m / 2 ^ d = t at *
    have e1 : IntKind.i64.min = -9223372036854775808 := by decide
    have e2 : IntKind.i64.max = 9223372036854775807 := by decide
    rw [e1, e2]
    cases s <;> simp <;> omega
  · have hw : floatOfInt .f64 (if s then -((m / 2 ^ d : Nat) : Int) else ((m / 2 ^ d : Nat) : Int)) = whole s (m / 2 ^ d) := by
      unfold floatOfInt FloatKind.nearest whole
      generalize m / 2 ^ d = t
      have : (if s then -(t : Int) else (t : Int)).natAbs = t := by cases s <;> simp
      rw [this]; rfl
    rw [hw]; exact hz

theorem fraction_any (y : Nat) (I : Int) (f0 : Nat) (h : Tn y I f0) (w : World) : Calls Try.prog 64 #[.float .f64 y] w fun e w' => e = .returned (.float .f64 (fr1 f0)) ∧ w = w' := by
  have hc := h.conv
  obtain ⟨a1, a2⟩ := opf h.sub
  obtain ⟨b1, b2⟩ := opf (fr1_bd h.bd).1
  have hb1 : ∀ w, fres .add .f64 w f0 4607182418800017408 = F .add f0 W1 := b1
  have hb2 : fcnt .add .f64 f0 4607182418800017408 = 0 := b2
  have hr : fr1 f0 = if lt0 f0 then F .add f0 W1 else f0 := rfl
  have HR := Lib.hid hr
  clear b1 b2 h hr
  cases hl : lt0 f0 with
  | true =>
    have hl' : (FloatKind.f64.format.order f0 0 == some .lt) = true := hl
    have HL := Lib.hid hl
    clear hl
    generalize F .add f0 W1 = f1 at *
    go_enter Try.func64, Try.ntmps64
    go_wp2
    go_ret
    exact ⟨ret_float (by rw [HR.out, HL.out]; rfl), rfl⟩
  | false =>
    have hl' : (FloatKind.f64.format.order f0 0 == some .lt) = false := hl
    have HL := Lib.hid hl
    clear hl hb1 hb2
    go_enter Try.func64, Try.ntmps64
    go_wp2
    go_ret
    exact ⟨ret_float (by rw [HR.out, HL.out]; rfl), rfl⟩

theorem unary_negF (k : FloatKind) (b : Nat) : Op.unary .neg (.float k b) = pure (.float k (Op.negFloat k b)) := rfl
attribute [local go_sem] unary_negF

/-- The word of a small number. -/
def Nw (k : Nat) : Nat := Ieee.double.nearest false k 0
theorem loopK : ∀ i, i < 9 → ((FloatKind.f64.format.order (Wk i) 4607182418800017408 == some .gt || FloatKind.f64.format.order (Wk i) 4607182418800017408 == some .eq) = decide (1 ≤ i)) := by decide +kernel
theorem loopC : ∀ i, i < 9 → 1 ≤ i → floatBits .mul .f64 4611686018427387904 (Wk i) = some (Nw (2 * i)) ∧ floatBits .add .f64 (Nw (2 * i)) 4607182418800017408 = some (Nw (2 * i + 1)) ∧ floatBits .mul .f64 (Nw (2 * i)) (Nw (2 * i + 1)) = some (Wd i) ∧ floatBits .sub .f64 (Wk i) 4607182418800017408 = some (Wk (i - 1)) := by decide +kernel
theorem loopI : ∀ i, i < 9 → floatOfInt .f64 (((2 * i * (2 * i + 1) : Nat)) : Int) = Wd i := by decide +kernel

/-- What the sine's walk wants of its words. -/
structure SinF (f : Nat) : Prop where
  s2 : floatBits .sub .f64 f Whalf = some (F .sub f Whalf)
  s3 : floatBits .sub .f64 Whalf (fr2 f) = some (F .sub Whalf (fr2 f))
  z : floatBits .mul .f64 (fr3 (fr2 f)) Wturn = some (sz f)
  u : floatBits .mul .f64 (sz f) (sz f) = some (su f)
  p : ∀ j, j < 8 → floatBits .mul .f64 (su f) (ser (su f) j) = some (F .mul (su f) (ser (su f) j)) ∧ floatBits .quo .f64 (F .mul (su f) (ser (su f) j)) (Wd (8 - j)) = some (F .quo (F .mul (su f) (ser (su f) j)) (Wd (8 - j))) ∧
      floatBits .sub .f64 W1 (F .quo (F .mul (su f) (ser (su f) j)) (Wd (8 - j))) = some (ser (su f) (j + 1))
  v : floatBits .mul .f64 (sz f) (ser (su f) 8) = some (sp f)

theorem sinF_ok {f : Nat} (h : Bd Ieee.double 2 f) : SinF f :=
  ⟨(fr2_bd h).1, (fr3_bd (fr2_bd h).2).1, (sz_bd h).1, (su_bd h).1, fun j hj => (sin_step (su_bd h).2 j hj (sin_bd (su_bd h).2 j (by omega))).1, (sp_bd h).1⟩

/-- The loop's counter as a measure. -/
def kOf : Value → Nat
  | .float _ x => x
  | _ => 0
theorem kOf_lt : ∀ i, 1 ≤ i → i < 9 → kOf (.float .f64 (Wk (i - 1))) < kOf (.float .f64 (Wk i)) := by
  intro i h1 h2
  have : ∀ i, i < 9 → 1 ≤ i → Wk (i - 1) < Wk i := by decide +kernel
  exact this i h2 h1

set_option maxHeartbeats 8000000 in
set_option maxRecDepth 100000 in
theorem sine_any (y : Nat) (I : Int) (f0 : Nat) (h : Tn y I f0) (w : World) : Calls Try.prog 53 #[.float .f64 y] w fun e w' => e = .returned (.float .f64 (sinF (fr1 f0))) ∧ w = w' := by
  have HT := Lib.hid h
  have H := sinF_ok (fr1_bd h.bd).2
  obtain ⟨f, hf⟩ : ∃ f, fr1 f0 = f := ⟨_, rfl⟩
  rw [hf] at H ⊢
  have HF1 := Lib.hid hf
  clear h hf
  cases g1 : geH f
  · cases g2 : gtQ (fr2 f)
    · skip
      obtain ⟨s1, s2⟩ := opf H.s2
      obtain ⟨s3, s4⟩ := opf H.s3
      obtain ⟨z1, z2⟩ := opf H.z
      obtain ⟨u1, u2⟩ := opf H.u
      obtain ⟨v1, v2⟩ := opf H.v
      have HP := Lib.hid H.p
      have e2 : fr2 f = f := by unfold fr2; rw [g1]; rfl
      have e3 : fr3 (fr2 f) = fr2 f := by unfold fr3; rw [g2]; rfl
      have er : sinF f = sp f := by unfold sinF; rw [g1]; rfl
      have ER := Lib.hid er
      have g1' : (FloatKind.f64.format.order f 4602678819172646912 == some .gt || FloatKind.f64.format.order f 4602678819172646912 == some .eq) = false := g1
      have g2' : (FloatKind.f64.format.order (fr2 f) 4598175219545276416 == some .gt) = false := g2
      rw [e3] at z1 z2
      have s1' : ∀ w, fres .sub .f64 w f 4602678819172646912 = F .sub f Whalf := s1
      have s2' : fcnt .sub .f64 f 4602678819172646912 = 0 := s2
      have s3' : ∀ w, fres .sub .f64 w 4602678819172646912 (fr2 f) = F .sub Whalf (fr2 f) := s3
      have s4' : fcnt .sub .f64 4602678819172646912 (fr2 f) = 0 := s4
      clear s1 s2 s3 s4 er e3 g1 g2 H
      rw [e2] at s3' s4' g2' z1 z2
      have z1' : ∀ w, fres .mul .f64 w _ 4618760256179416344 = sz f := z1
      have z2' : fcnt .mul .f64 _ 4618760256179416344 = 0 := z2
      clear z1 z2 e2
      generalize sz f = z at *
      have EU := Lib.hid (rfl : su f = su f)
      generalize su f = u at *
      generalize hv : sp f = v at *
      clear hv EU
      go_enter Try.func53, Try.ntmps53
      go_wp2_with (go_at_call 64; refine (fraction_any y I f0 HT.out _).mono ?_; rintro e w' ⟨rfl, rfl⟩; rw [HF1.out])
      go_loop [7, 8] (fun p k => ∃ j : Nat, j ≤ 8 ∧ k = .float .f64 (Wk (8 - j)) ∧ p = .float .f64 (ser u j)) (fun _ k => kOf k)
      case atStart => exact ⟨0, by omega, rfl, rfl⟩
      case round =>
        obtain ⟨j, hj, rfl, rfl⟩ := hrel
        by_cases hlt : j < 8
        · obtain ⟨p1, p2, p3⟩ := HP.out j hlt
          obtain ⟨p1, q1⟩ := opf p1
          obtain ⟨p2, q2⟩ := opf p2
          obtain ⟨p3, q3⟩ := opf p3
          have p3' : ∀ w, fres .sub .f64 w 4607182418800017408 _ = _ := p3
          have q3' : fcnt .sub .f64 4607182418800017408 _ = 0 := q3
          clear p3 q3
          obtain ⟨i, hi⟩ : ∃ i, 8 - j = i := ⟨_, rfl⟩
          rw [hi] at p2 q2 p3' q3' ⊢
          obtain ⟨c1, c2, c3, c4⟩ := loopC i (by omega) (by omega)
          have c5 := loopK i (by omega)
          rw [decide_eq_true (show 1 ≤ i by omega)] at c5
          obtain ⟨c1, d1⟩ := opf c1
          obtain ⟨c2, d2⟩ := opf c2
          obtain ⟨c3, d3⟩ := opf c3
          obtain ⟨c4, d4⟩ := opf c4
          have i1 : 1 ≤ i := by omega
          have HI := Lib.hid hi
          have HK : Hid (kOf (.float .f64 (Wk (i - 1))) < kOf (.float .f64 (Wk i))) := Lib.hid (kOf_lt i i1 (by omega))
          have HW : Hid (Wk (8 - (j + 1)) = Wk (i - 1)) := Lib.hid (by rw [← hi]; congr 1)
          clear hi
          generalize Wk i = ki at *
          generalize Wk (i - 1) = kj at *
          generalize Nw (2 * i) = n1 at *
          generalize Nw (2 * i + 1) = n2 at *
          have hp1 : ∃ x, ser u j = x := ⟨_, rfl⟩
          obtain ⟨x, hx⟩ := hp1
          rw [hx] at p1 q1 p2 q2 p3' q3' ⊢
          clear hx
          generalize F .mul u x = x1 at *
          generalize Wd i = wd at *
          generalize F .quo x1 wd = x2 at *
          go_wp2
          go_round
          case rel => exact ⟨j + 1, by omega, by rw [HW.out], rfl⟩
          case measure => exact HK.out
        · obtain rfl : j = 8 := by omega
          have c5 := loopK 0 (by omega)
          rw [decide_eq_false (by omega)] at c5
          have hk0 : Wk (8 - 8) = Wk 0 := rfl
          rw [hk0]
          generalize Wk 0 = k0 at *
          generalize ser u 8 = p8 at *
          go_wp2
          go_ret
          exact ⟨ret_float ER.out.symm, rfl⟩

    · skip
      obtain ⟨s1, s2⟩ := opf H.s2
      obtain ⟨s3, s4⟩ := opf H.s3
      obtain ⟨z1, z2⟩ := opf H.z
      obtain ⟨u1, u2⟩ := opf H.u
      obtain ⟨v1, v2⟩ := opf H.v
      have HP := Lib.hid H.p
      have e2 : fr2 f = f := by unfold fr2; rw [g1]; rfl
      have e3 : fr3 (fr2 f) = F .sub Whalf (fr2 f) := by unfold fr3; rw [g2]; rfl
      have er : sinF f = sp f := by unfold sinF; rw [g1]; rfl
      have ER := Lib.hid er
      have g1' : (FloatKind.f64.format.order f 4602678819172646912 == some .gt || FloatKind.f64.format.order f 4602678819172646912 == some .eq) = false := g1
      have g2' : (FloatKind.f64.format.order (fr2 f) 4598175219545276416 == some .gt) = true := g2
      rw [e3] at z1 z2
      have s1' : ∀ w, fres .sub .f64 w f 4602678819172646912 = F .sub f Whalf := s1
      have s2' : fcnt .sub .f64 f 4602678819172646912 = 0 := s2
      have s3' : ∀ w, fres .sub .f64 w 4602678819172646912 (fr2 f) = F .sub Whalf (fr2 f) := s3
      have s4' : fcnt .sub .f64 4602678819172646912 (fr2 f) = 0 := s4
      clear s1 s2 s3 s4 er e3 g1 g2 H
      rw [e2] at s3' s4' g2' z1 z2
      have z1' : ∀ w, fres .mul .f64 w _ 4618760256179416344 = sz f := z1
      have z2' : fcnt .mul .f64 _ 4618760256179416344 = 0 := z2
      clear z1 z2 e2
      generalize F .sub Whalf f = f3 at *
      generalize sz f = z at *
      have EU := Lib.hid (rfl : su f = su f)
      generalize su f = u at *
      generalize hv : sp f = v at *
      clear hv EU
      go_enter Try.func53, Try.ntmps53
      go_wp2_with (go_at_call 64; refine (fraction_any y I f0 HT.out _).mono ?_; rintro e w' ⟨rfl, rfl⟩; rw [HF1.out])
      go_loop [7, 8] (fun p k => ∃ j : Nat, j ≤ 8 ∧ k = .float .f64 (Wk (8 - j)) ∧ p = .float .f64 (ser u j)) (fun _ k => kOf k)
      case atStart => exact ⟨0, by omega, rfl, rfl⟩
      case round =>
        obtain ⟨j, hj, rfl, rfl⟩ := hrel
        by_cases hlt : j < 8
        · obtain ⟨p1, p2, p3⟩ := HP.out j hlt
          obtain ⟨p1, q1⟩ := opf p1
          obtain ⟨p2, q2⟩ := opf p2
          obtain ⟨p3, q3⟩ := opf p3
          have p3' : ∀ w, fres .sub .f64 w 4607182418800017408 _ = _ := p3
          have q3' : fcnt .sub .f64 4607182418800017408 _ = 0 := q3
          clear p3 q3
          obtain ⟨i, hi⟩ : ∃ i, 8 - j = i := ⟨_, rfl⟩
          rw [hi] at p2 q2 p3' q3' ⊢
          obtain ⟨c1, c2, c3, c4⟩ := loopC i (by omega) (by omega)
          have c5 := loopK i (by omega)
          rw [decide_eq_true (show 1 ≤ i by omega)] at c5
          obtain ⟨c1, d1⟩ := opf c1
          obtain ⟨c2, d2⟩ := opf c2
          obtain ⟨c3, d3⟩ := opf c3
          obtain ⟨c4, d4⟩ := opf c4
          have i1 : 1 ≤ i := by omega
          have HI := Lib.hid hi
          have HK : Hid (kOf (.float .f64 (Wk (i - 1))) < kOf (.float .f64 (Wk i))) := Lib.hid (kOf_lt i i1 (by omega))
          have HW : Hid (Wk (8 - (j + 1)) = Wk (i - 1)) := Lib.hid (by rw [← hi]; congr 1)
          clear hi
          generalize Wk i = ki at *
          generalize Wk (i - 1) = kj at *
          generalize Nw (2 * i) = n1 at *
          generalize Nw (2 * i + 1) = n2 at *
          have hp1 : ∃ x, ser u j = x := ⟨_, rfl⟩
          obtain ⟨x, hx⟩ := hp1
          rw [hx] at p1 q1 p2 q2 p3' q3' ⊢
          clear hx
          generalize F .mul u x = x1 at *
          generalize Wd i = wd at *
          generalize F .quo x1 wd = x2 at *
          go_wp2
          go_round
          case rel => exact ⟨j + 1, by omega, by rw [HW.out], rfl⟩
          case measure => exact HK.out
        · obtain rfl : j = 8 := by omega
          have c5 := loopK 0 (by omega)
          rw [decide_eq_false (by omega)] at c5
          have hk0 : Wk (8 - 8) = Wk 0 := rfl
          rw [hk0]
          generalize Wk 0 = k0 at *
          generalize ser u 8 = p8 at *
          go_wp2
          go_ret
          exact ⟨ret_float ER.out.symm, rfl⟩

  · cases g2 : gtQ (fr2 f)
    · skip
      obtain ⟨s1, s2⟩ := opf H.s2
      obtain ⟨s3, s4⟩ := opf H.s3
      obtain ⟨z1, z2⟩ := opf H.z
      obtain ⟨u1, u2⟩ := opf H.u
      obtain ⟨v1, v2⟩ := opf H.v
      have HP := Lib.hid H.p
      have e2 : fr2 f = F .sub f Whalf := by unfold fr2; rw [g1]; rfl
      have e3 : fr3 (fr2 f) = fr2 f := by unfold fr3; rw [g2]; rfl
      have er : sinF f = Op.negFloat .f64 (sp f) := by unfold sinF; rw [g1]; rfl
      have ER := Lib.hid er
      have g1' : (FloatKind.f64.format.order f 4602678819172646912 == some .gt || FloatKind.f64.format.order f 4602678819172646912 == some .eq) = true := g1
      have g2' : (FloatKind.f64.format.order (fr2 f) 4598175219545276416 == some .gt) = false := g2
      rw [e3] at z1 z2
      have s1' : ∀ w, fres .sub .f64 w f 4602678819172646912 = F .sub f Whalf := s1
      have s2' : fcnt .sub .f64 f 4602678819172646912 = 0 := s2
      have s3' : ∀ w, fres .sub .f64 w 4602678819172646912 (fr2 f) = F .sub Whalf (fr2 f) := s3
      have s4' : fcnt .sub .f64 4602678819172646912 (fr2 f) = 0 := s4
      clear s1 s2 s3 s4 er e3 g1 g2 H
      rw [← e2] at s1'
      have z1' : ∀ w, fres .mul .f64 w _ 4618760256179416344 = sz f := z1
      have z2' : fcnt .mul .f64 _ 4618760256179416344 = 0 := z2
      clear z1 z2 e2
      generalize fr2 f = f2 at *
      generalize sz f = z at *
      have EU := Lib.hid (rfl : su f = su f)
      generalize su f = u at *
      generalize hv : sp f = v at *
      clear hv EU
      go_enter Try.func53, Try.ntmps53
      go_wp2_with (go_at_call 64; refine (fraction_any y I f0 HT.out _).mono ?_; rintro e w' ⟨rfl, rfl⟩; rw [HF1.out])
      go_loop [7, 8] (fun p k => ∃ j : Nat, j ≤ 8 ∧ k = .float .f64 (Wk (8 - j)) ∧ p = .float .f64 (ser u j)) (fun _ k => kOf k)
      case atStart => exact ⟨0, by omega, rfl, rfl⟩
      case round =>
        obtain ⟨j, hj, rfl, rfl⟩ := hrel
        by_cases hlt : j < 8
        · obtain ⟨p1, p2, p3⟩ := HP.out j hlt
          obtain ⟨p1, q1⟩ := opf p1
          obtain ⟨p2, q2⟩ := opf p2
          obtain ⟨p3, q3⟩ := opf p3
          have p3' : ∀ w, fres .sub .f64 w 4607182418800017408 _ = _ := p3
          have q3' : fcnt .sub .f64 4607182418800017408 _ = 0 := q3
          clear p3 q3
          obtain ⟨i, hi⟩ : ∃ i, 8 - j = i := ⟨_, rfl⟩
          rw [hi] at p2 q2 p3' q3' ⊢
          obtain ⟨c1, c2, c3, c4⟩ := loopC i (by omega) (by omega)
          have c5 := loopK i (by omega)
          rw [decide_eq_true (show 1 ≤ i by omega)] at c5
          obtain ⟨c1, d1⟩ := opf c1
          obtain ⟨c2, d2⟩ := opf c2
          obtain ⟨c3, d3⟩ := opf c3
          obtain ⟨c4, d4⟩ := opf c4
          have i1 : 1 ≤ i := by omega
          have HI := Lib.hid hi
          have HK : Hid (kOf (.float .f64 (Wk (i - 1))) < kOf (.float .f64 (Wk i))) := Lib.hid (kOf_lt i i1 (by omega))
          have HW : Hid (Wk (8 - (j + 1)) = Wk (i - 1)) := Lib.hid (by rw [← hi]; congr 1)
          clear hi
          generalize Wk i = ki at *
          generalize Wk (i - 1) = kj at *
          generalize Nw (2 * i) = n1 at *
          generalize Nw (2 * i + 1) = n2 at *
          have hp1 : ∃ x, ser u j = x := ⟨_, rfl⟩
          obtain ⟨x, hx⟩ := hp1
          rw [hx] at p1 q1 p2 q2 p3' q3' ⊢
          clear hx
          generalize F .mul u x = x1 at *
          generalize Wd i = wd at *
          generalize F .quo x1 wd = x2 at *
          go_wp2
          go_round
          case rel => exact ⟨j + 1, by omega, by rw [HW.out], rfl⟩
          case measure => exact HK.out
        · obtain rfl : j = 8 := by omega
          have c5 := loopK 0 (by omega)
          rw [decide_eq_false (by omega)] at c5
          have hk0 : Wk (8 - 8) = Wk 0 := rfl
          rw [hk0]
          generalize Wk 0 = k0 at *
          generalize ser u 8 = p8 at *
          go_wp2
          go_ret
          exact ⟨ret_float ER.out.symm, rfl⟩

    · skip
      obtain ⟨s1, s2⟩ := opf H.s2
      obtain ⟨s3, s4⟩ := opf H.s3
      obtain ⟨z1, z2⟩ := opf H.z
      obtain ⟨u1, u2⟩ := opf H.u
      obtain ⟨v1, v2⟩ := opf H.v
      have HP := Lib.hid H.p
      have e2 : fr2 f = F .sub f Whalf := by unfold fr2; rw [g1]; rfl
      have e3 : fr3 (fr2 f) = F .sub Whalf (fr2 f) := by unfold fr3; rw [g2]; rfl
      have er : sinF f = Op.negFloat .f64 (sp f) := by unfold sinF; rw [g1]; rfl
      have ER := Lib.hid er
      have g1' : (FloatKind.f64.format.order f 4602678819172646912 == some .gt || FloatKind.f64.format.order f 4602678819172646912 == some .eq) = true := g1
      have g2' : (FloatKind.f64.format.order (fr2 f) 4598175219545276416 == some .gt) = true := g2
      rw [e3] at z1 z2
      have s1' : ∀ w, fres .sub .f64 w f 4602678819172646912 = F .sub f Whalf := s1
      have s2' : fcnt .sub .f64 f 4602678819172646912 = 0 := s2
      have s3' : ∀ w, fres .sub .f64 w 4602678819172646912 (fr2 f) = F .sub Whalf (fr2 f) := s3
      have s4' : fcnt .sub .f64 4602678819172646912 (fr2 f) = 0 := s4
      clear s1 s2 s3 s4 er e3 g1 g2 H
      rw [← e2] at s1'
      have z1' : ∀ w, fres .mul .f64 w _ 4618760256179416344 = sz f := z1
      have z2' : fcnt .mul .f64 _ 4618760256179416344 = 0 := z2
      clear z1 z2 e2
      generalize fr2 f = f2 at *
      generalize F .sub Whalf f2 = f3 at *
      generalize sz f = z at *
      have EU := Lib.hid (rfl : su f = su f)
      generalize su f = u at *
      generalize hv : sp f = v at *
      clear hv EU
      go_enter Try.func53, Try.ntmps53
      go_wp2_with (go_at_call 64; refine (fraction_any y I f0 HT.out _).mono ?_; rintro e w' ⟨rfl, rfl⟩; rw [HF1.out])
      go_loop [7, 8] (fun p k => ∃ j : Nat, j ≤ 8 ∧ k = .float .f64 (Wk (8 - j)) ∧ p = .float .f64 (ser u j)) (fun _ k => kOf k)
      case atStart => exact ⟨0, by omega, rfl, rfl⟩
      case round =>
        obtain ⟨j, hj, rfl, rfl⟩ := hrel
        by_cases hlt : j < 8
        · obtain ⟨p1, p2, p3⟩ := HP.out j hlt
          obtain ⟨p1, q1⟩ := opf p1
          obtain ⟨p2, q2⟩ := opf p2
          obtain ⟨p3, q3⟩ := opf p3
          have p3' : ∀ w, fres .sub .f64 w 4607182418800017408 _ = _ := p3
          have q3' : fcnt .sub .f64 4607182418800017408 _ = 0 := q3
          clear p3 q3
          obtain ⟨i, hi⟩ : ∃ i, 8 - j = i := ⟨_, rfl⟩
          rw [hi] at p2 q2 p3' q3' ⊢
          obtain ⟨c1, c2, c3, c4⟩ := loopC i (by omega) (by omega)
          have c5 := loopK i (by omega)
          rw [decide_eq_true (show 1 ≤ i by omega)] at c5
          obtain ⟨c1, d1⟩ := opf c1
          obtain ⟨c2, d2⟩ := opf c2
          obtain ⟨c3, d3⟩ := opf c3
          obtain ⟨c4, d4⟩ := opf c4
          have i1 : 1 ≤ i := by omega
          have HI := Lib.hid hi
          have HK : Hid (kOf (.float .f64 (Wk (i - 1))) < kOf (.float .f64 (Wk i))) := Lib.hid (kOf_lt i i1 (by omega))
          have HW : Hid (Wk (8 - (j + 1)) = Wk (i - 1)) := Lib.hid (by rw [← hi]; congr 1)
          clear hi
          generalize Wk i = ki at *
          generalize Wk (i - 1) = kj at *
          generalize Nw (2 * i) = n1 at *
          generalize Nw (2 * i + 1) = n2 at *
          have hp1 : ∃ x, ser u j = x := ⟨_, rfl⟩
          obtain ⟨x, hx⟩ := hp1
          rw [hx] at p1 q1 p2 q2 p3' q3' ⊢
          clear hx
          generalize F .mul u x = x1 at *
          generalize Wd i = wd at *
          generalize F .quo x1 wd = x2 at *
          go_wp2
          go_round
          case rel => exact ⟨j + 1, by omega, by rw [HW.out], rfl⟩
          case measure => exact HK.out
        · obtain rfl : j = 8 := by omega
          have c5 := loopK 0 (by omega)
          rw [decide_eq_false (by omega)] at c5
          have hk0 : Wk (8 - 8) = Wk 0 := rfl
          rw [hk0]
          generalize Wk 0 = k0 at *
          generalize ser u 8 = p8 at *
          go_wp2
          go_ret
          exact ⟨ret_float ER.out.symm, rfl⟩


set_option maxHeartbeats 8000000 in
set_option maxRecDepth 100000 in
theorem l01SineWide_any (y : Nat) (I : Int) (f0 : Nat) (h : Tn y I f0) (w : World) (hyy : floatBits .sub .f64 y y = some 0) (hA : (FloatKind.f64.format.order y 4841369599423283200 == some .gt || FloatKind.f64.format.order y 4841369599423283200 == some .eq) = false) (hB : (FloatKind.f64.format.order y 14064741636278059008 == some .lt || FloatKind.f64.format.order y 14064741636278059008 == some .eq) = false) : Calls Try.prog 72 #[.float .f64 y] w fun e w' => e = .returned (.float .f64 (sinF (fr1 f0))) ∧ w = w' := by
  have HT := Lib.hid h
  have H := sinF_ok (fr1_bd h.bd).2
  obtain ⟨y1, y2⟩ := opf hyy
  have hc := h.conv
  obtain ⟨a1, a2⟩ := opf h.sub
  obtain ⟨b1, b2⟩ := opf (fr1_bd h.bd).1
  have hb1 : ∀ w, fres .add .f64 w f0 4607182418800017408 = F .add f0 W1 := b1
  have hb2 : fcnt .add .f64 f0 4607182418800017408 = 0 := b2
  have o00 : (FloatKind.f64.format.order 0 0 != some .eq) = false := by decide +kernel
  clear b1 b2 h hyy HT
  cases hl : lt0 f0
  · have hl' : (FloatKind.f64.format.order f0 0 == some .lt) = false := hl
    have e1 : fr1 f0 = f0 := by unfold fr1; rw [hl]; rfl
    rw [e1] at H ⊢
    clear hl e1
    clear hb1 hb2
    obtain ⟨f, rfl⟩ : ∃ f, f = f0 := ⟨_, rfl⟩
    skip
    cases g1 : geH f
    · cases g2 : gtQ (fr2 f)
      · skip
        obtain ⟨s1, s2⟩ := opf H.s2
        obtain ⟨s3, s4⟩ := opf H.s3
        obtain ⟨z1, z2⟩ := opf H.z
        obtain ⟨u1, u2⟩ := opf H.u
        obtain ⟨v1, v2⟩ := opf H.v
        have HP := Lib.hid H.p
        have e2 : fr2 f = f := by unfold fr2; rw [g1]; rfl
        have e3 : fr3 (fr2 f) = fr2 f := by unfold fr3; rw [g2]; rfl
        have er : sinF f = sp f := by unfold sinF; rw [g1]; rfl
        have ER := Lib.hid er
        have g1' : (FloatKind.f64.format.order f 4602678819172646912 == some .gt || FloatKind.f64.format.order f 4602678819172646912 == some .eq) = false := g1
        have g2' : (FloatKind.f64.format.order (fr2 f) 4598175219545276416 == some .gt) = false := g2
        rw [e3] at z1 z2
        have s1' : ∀ w, fres .sub .f64 w f 4602678819172646912 = F .sub f Whalf := s1
        have s2' : fcnt .sub .f64 f 4602678819172646912 = 0 := s2
        have s3' : ∀ w, fres .sub .f64 w 4602678819172646912 (fr2 f) = F .sub Whalf (fr2 f) := s3
        have s4' : fcnt .sub .f64 4602678819172646912 (fr2 f) = 0 := s4
        clear s1 s2 s3 s4 er e3 g1 g2 H
        rw [e2] at s3' s4' g2' z1 z2
        have z1' : ∀ w, fres .mul .f64 w _ 4618760256179416344 = sz f := z1
        have z2' : fcnt .mul .f64 _ 4618760256179416344 = 0 := z2
        clear z1 z2 e2
        generalize sz f = z at *
        have EU := Lib.hid (rfl : su f = su f)
        generalize su f = u at *
        generalize hv : sp f = v at *
        clear hv EU
        go_enter Try.func72, Try.ntmps72
        go_wp2
        go_loop [7, 8] (fun p k => ∃ j : Nat, j ≤ 8 ∧ k = .int .i64 ((8 - j : Nat) : Int) ∧ p = .float .f64 (ser u j)) (fun _ k => (intOf k).toNat)
        case atStart => exact ⟨0, by omega, rfl, rfl⟩
        case round =>
          obtain ⟨j, hj, rfl, rfl⟩ := hrel
          by_cases hlt : j < 8
          · obtain ⟨p1, p2, p3⟩ := HP.out j hlt
            obtain ⟨p1, q1⟩ := opf p1
            obtain ⟨p2, q2⟩ := opf p2
            obtain ⟨p3, q3⟩ := opf p3
            have p3' : ∀ w, fres .sub .f64 w 4607182418800017408 _ = _ := p3
            have q3' : fcnt .sub .f64 4607182418800017408 _ = 0 := q3
            clear p3 q3
            obtain ⟨i, hi⟩ : ∃ i, 8 - j = i := ⟨_, rfl⟩
            rw [hi] at p2 q2 p3' q3' ⊢
            have hc := loopI i (by omega)
            obtain ⟨P, hP⟩ : ∃ P : Nat, 2 * i * (2 * i + 1) = P := ⟨_, rfl⟩
            have hP2 : P ≤ 272 := by
              rw [← hP]
              exact Nat.mul_le_mul (show 2 * i ≤ 16 by omega) (show 2 * i + 1 ≤ 17 by omega)
            have hPI : (2 : Int) * (i : Int) * (2 * (i : Int) + 1) = (P : Int) := by rw [← hP]; simp
            rw [hP] at hc
            have i1 : 1 ≤ i := by omega
            have i8 : i ≤ 8 := by omega
            have HI := Lib.hid hi
            have HP' := Lib.hid hP
            clear hi hP
            have hp1 : ∃ x, ser u j = x := ⟨_, rfl⟩
            obtain ⟨x, hx⟩ := hp1
            rw [hx] at p1 q1 p2 q2 p3' q3' ⊢
            clear hx
            generalize F .mul u x = x1 at *
            generalize Wd i = wd at *
            generalize F .quo x1 wd = x2 at *
            go_wp2
            go_round
            case rel => exact ⟨j + 1, by omega, by (have h1 := HI.out; rw [show 8 - (j + 1) = i - 1 by omega]; go_num), rfl⟩
            case measure => simp [intOf]; omega
          · obtain rfl : j = 8 := by omega
            generalize ser u 8 = p8 at *
            go_wp2
            go_ret
            exact ⟨ret_float ER.out.symm, rfl⟩
  
      · skip
        obtain ⟨s1, s2⟩ := opf H.s2
        obtain ⟨s3, s4⟩ := opf H.s3
        obtain ⟨z1, z2⟩ := opf H.z
        obtain ⟨u1, u2⟩ := opf H.u
        obtain ⟨v1, v2⟩ := opf H.v
        have HP := Lib.hid H.p
        have e2 : fr2 f = f := by unfold fr2; rw [g1]; rfl
        have e3 : fr3 (fr2 f) = F .sub Whalf (fr2 f) := by unfold fr3; rw [g2]; rfl
        have er : sinF f = sp f := by unfold sinF; rw [g1]; rfl
        have ER := Lib.hid er
        have g1' : (FloatKind.f64.format.order f 4602678819172646912 == some .gt || FloatKind.f64.format.order f 4602678819172646912 == some .eq) = false := g1
        have g2' : (FloatKind.f64.format.order (fr2 f) 4598175219545276416 == some .gt) = true := g2
        rw [e3] at z1 z2
        have s1' : ∀ w, fres .sub .f64 w f 4602678819172646912 = F .sub f Whalf := s1
        have s2' : fcnt .sub .f64 f 4602678819172646912 = 0 := s2
        have s3' : ∀ w, fres .sub .f64 w 4602678819172646912 (fr2 f) = F .sub Whalf (fr2 f) := s3
        have s4' : fcnt .sub .f64 4602678819172646912 (fr2 f) = 0 := s4
        clear s1 s2 s3 s4 er e3 g1 g2 H
        rw [e2] at s3' s4' g2' z1 z2
        have z1' : ∀ w, fres .mul .f64 w _ 4618760256179416344 = sz f := z1
        have z2' : fcnt .mul .f64 _ 4618760256179416344 = 0 := z2
        clear z1 z2 e2
        generalize F .sub Whalf f = f3 at *
        generalize sz f = z at *
        have EU := Lib.hid (rfl : su f = su f)
        generalize su f = u at *
        generalize hv : sp f = v at *
        clear hv EU
        go_enter Try.func72, Try.ntmps72
        go_wp2
        go_loop [7, 8] (fun p k => ∃ j : Nat, j ≤ 8 ∧ k = .int .i64 ((8 - j : Nat) : Int) ∧ p = .float .f64 (ser u j)) (fun _ k => (intOf k).toNat)
        case atStart => exact ⟨0, by omega, rfl, rfl⟩
        case round =>
          obtain ⟨j, hj, rfl, rfl⟩ := hrel
          by_cases hlt : j < 8
          · obtain ⟨p1, p2, p3⟩ := HP.out j hlt
            obtain ⟨p1, q1⟩ := opf p1
            obtain ⟨p2, q2⟩ := opf p2
            obtain ⟨p3, q3⟩ := opf p3
            have p3' : ∀ w, fres .sub .f64 w 4607182418800017408 _ = _ := p3
            have q3' : fcnt .sub .f64 4607182418800017408 _ = 0 := q3
            clear p3 q3
            obtain ⟨i, hi⟩ : ∃ i, 8 - j = i := ⟨_, rfl⟩
            rw [hi] at p2 q2 p3' q3' ⊢
            have hc := loopI i (by omega)
            obtain ⟨P, hP⟩ : ∃ P : Nat, 2 * i * (2 * i + 1) = P := ⟨_, rfl⟩
            have hP2 : P ≤ 272 := by
              rw [← hP]
              exact Nat.mul_le_mul (show 2 * i ≤ 16 by omega) (show 2 * i + 1 ≤ 17 by omega)
            have hPI : (2 : Int) * (i : Int) * (2 * (i : Int) + 1) = (P : Int) := by rw [← hP]; simp
            rw [hP] at hc
            have i1 : 1 ≤ i := by omega
            have i8 : i ≤ 8 := by omega
            have HI := Lib.hid hi
            have HP' := Lib.hid hP
            clear hi hP
            have hp1 : ∃ x, ser u j = x := ⟨_, rfl⟩
            obtain ⟨x, hx⟩ := hp1
            rw [hx] at p1 q1 p2 q2 p3' q3' ⊢
            clear hx
            generalize F .mul u x = x1 at *
            generalize Wd i = wd at *
            generalize F .quo x1 wd = x2 at *
            go_wp2
            go_round
            case rel => exact ⟨j + 1, by omega, by (have h1 := HI.out; rw [show 8 - (j + 1) = i - 1 by omega]; go_num), rfl⟩
            case measure => simp [intOf]; omega
          · obtain rfl : j = 8 := by omega
            generalize ser u 8 = p8 at *
            go_wp2
            go_ret
            exact ⟨ret_float ER.out.symm, rfl⟩
  
    · cases g2 : gtQ (fr2 f)
      · skip
        obtain ⟨s1, s2⟩ := opf H.s2
        obtain ⟨s3, s4⟩ := opf H.s3
        obtain ⟨z1, z2⟩ := opf H.z
        obtain ⟨u1, u2⟩ := opf H.u
        obtain ⟨v1, v2⟩ := opf H.v
        have HP := Lib.hid H.p
        have e2 : fr2 f = F .sub f Whalf := by unfold fr2; rw [g1]; rfl
        have e3 : fr3 (fr2 f) = fr2 f := by unfold fr3; rw [g2]; rfl
        have er : sinF f = Op.negFloat .f64 (sp f) := by unfold sinF; rw [g1]; rfl
        have ER := Lib.hid er
        have g1' : (FloatKind.f64.format.order f 4602678819172646912 == some .gt || FloatKind.f64.format.order f 4602678819172646912 == some .eq) = true := g1
        have g2' : (FloatKind.f64.format.order (fr2 f) 4598175219545276416 == some .gt) = false := g2
        rw [e3] at z1 z2
        have s1' : ∀ w, fres .sub .f64 w f 4602678819172646912 = F .sub f Whalf := s1
        have s2' : fcnt .sub .f64 f 4602678819172646912 = 0 := s2
        have s3' : ∀ w, fres .sub .f64 w 4602678819172646912 (fr2 f) = F .sub Whalf (fr2 f) := s3
        have s4' : fcnt .sub .f64 4602678819172646912 (fr2 f) = 0 := s4
        clear s1 s2 s3 s4 er e3 g1 g2 H
        rw [← e2] at s1'
        have z1' : ∀ w, fres .mul .f64 w _ 4618760256179416344 = sz f := z1
        have z2' : fcnt .mul .f64 _ 4618760256179416344 = 0 := z2
        clear z1 z2 e2
        generalize fr2 f = f2 at *
        generalize sz f = z at *
        have EU := Lib.hid (rfl : su f = su f)
        generalize su f = u at *
        generalize hv : sp f = v at *
        clear hv EU
        go_enter Try.func72, Try.ntmps72
        go_wp2
        go_loop [7, 8] (fun p k => ∃ j : Nat, j ≤ 8 ∧ k = .int .i64 ((8 - j : Nat) : Int) ∧ p = .float .f64 (ser u j)) (fun _ k => (intOf k).toNat)
        case atStart => exact ⟨0, by omega, rfl, rfl⟩
        case round =>
          obtain ⟨j, hj, rfl, rfl⟩ := hrel
          by_cases hlt : j < 8
          · obtain ⟨p1, p2, p3⟩ := HP.out j hlt
            obtain ⟨p1, q1⟩ := opf p1
            obtain ⟨p2, q2⟩ := opf p2
            obtain ⟨p3, q3⟩ := opf p3
            have p3' : ∀ w, fres .sub .f64 w 4607182418800017408 _ = _ := p3
            have q3' : fcnt .sub .f64 4607182418800017408 _ = 0 := q3
            clear p3 q3
            obtain ⟨i, hi⟩ : ∃ i, 8 - j = i := ⟨_, rfl⟩
            rw [hi] at p2 q2 p3' q3' ⊢
            have hc := loopI i (by omega)
            obtain ⟨P, hP⟩ : ∃ P : Nat, 2 * i * (2 * i + 1) = P := ⟨_, rfl⟩
            have hP2 : P ≤ 272 := by
              rw [← hP]
              exact Nat.mul_le_mul (show 2 * i ≤ 16 by omega) (show 2 * i + 1 ≤ 17 by omega)
            have hPI : (2 : Int) * (i : Int) * (2 * (i : Int) + 1) = (P : Int) := by rw [← hP]; simp
            rw [hP] at hc
            have i1 : 1 ≤ i := by omega
            have i8 : i ≤ 8 := by omega
            have HI := Lib.hid hi
            have HP' := Lib.hid hP
            clear hi hP
            have hp1 : ∃ x, ser u j = x := ⟨_, rfl⟩
            obtain ⟨x, hx⟩ := hp1
            rw [hx] at p1 q1 p2 q2 p3' q3' ⊢
            clear hx
            generalize F .mul u x = x1 at *
            generalize Wd i = wd at *
            generalize F .quo x1 wd = x2 at *
            go_wp2
            go_round
            case rel => exact ⟨j + 1, by omega, by (have h1 := HI.out; rw [show 8 - (j + 1) = i - 1 by omega]; go_num), rfl⟩
            case measure => simp [intOf]; omega
          · obtain rfl : j = 8 := by omega
            generalize ser u 8 = p8 at *
            go_wp2
            go_ret
            exact ⟨ret_float ER.out.symm, rfl⟩
  
      · skip
        obtain ⟨s1, s2⟩ := opf H.s2
        obtain ⟨s3, s4⟩ := opf H.s3
        obtain ⟨z1, z2⟩ := opf H.z
        obtain ⟨u1, u2⟩ := opf H.u
        obtain ⟨v1, v2⟩ := opf H.v
        have HP := Lib.hid H.p
        have e2 : fr2 f = F .sub f Whalf := by unfold fr2; rw [g1]; rfl
        have e3 : fr3 (fr2 f) = F .sub Whalf (fr2 f) := by unfold fr3; rw [g2]; rfl
        have er : sinF f = Op.negFloat .f64 (sp f) := by unfold sinF; rw [g1]; rfl
        have ER := Lib.hid er
        have g1' : (FloatKind.f64.format.order f 4602678819172646912 == some .gt || FloatKind.f64.format.order f 4602678819172646912 == some .eq) = true := g1
        have g2' : (FloatKind.f64.format.order (fr2 f) 4598175219545276416 == some .gt) = true := g2
        rw [e3] at z1 z2
        have s1' : ∀ w, fres .sub .f64 w f 4602678819172646912 = F .sub f Whalf := s1
        have s2' : fcnt .sub .f64 f 4602678819172646912 = 0 := s2
        have s3' : ∀ w, fres .sub .f64 w 4602678819172646912 (fr2 f) = F .sub Whalf (fr2 f) := s3
        have s4' : fcnt .sub .f64 4602678819172646912 (fr2 f) = 0 := s4
        clear s1 s2 s3 s4 er e3 g1 g2 H
        rw [← e2] at s1'
        have z1' : ∀ w, fres .mul .f64 w _ 4618760256179416344 = sz f := z1
        have z2' : fcnt .mul .f64 _ 4618760256179416344 = 0 := z2
        clear z1 z2 e2
        generalize fr2 f = f2 at *
        generalize F .sub Whalf f2 = f3 at *
        generalize sz f = z at *
        have EU := Lib.hid (rfl : su f = su f)
        generalize su f = u at *
        generalize hv : sp f = v at *
        clear hv EU
        go_enter Try.func72, Try.ntmps72
        go_wp2
        go_loop [7, 8] (fun p k => ∃ j : Nat, j ≤ 8 ∧ k = .int .i64 ((8 - j : Nat) : Int) ∧ p = .float .f64 (ser u j)) (fun _ k => (intOf k).toNat)
        case atStart => exact ⟨0, by omega, rfl, rfl⟩
        case round =>
          obtain ⟨j, hj, rfl, rfl⟩ := hrel
          by_cases hlt : j < 8
          · obtain ⟨p1, p2, p3⟩ := HP.out j hlt
            obtain ⟨p1, q1⟩ := opf p1
            obtain ⟨p2, q2⟩ := opf p2
            obtain ⟨p3, q3⟩ := opf p3
            have p3' : ∀ w, fres .sub .f64 w 4607182418800017408 _ = _ := p3
            have q3' : fcnt .sub .f64 4607182418800017408 _ = 0 := q3
            clear p3 q3
            obtain ⟨i, hi⟩ : ∃ i, 8 - j = i := ⟨_, rfl⟩
            rw [hi] at p2 q2 p3' q3' ⊢
            have hc := loopI i (by omega)
            obtain ⟨P, hP⟩ : ∃ P : Nat, 2 * i * (2 * i + 1) = P := ⟨_, rfl⟩
            have hP2 : P ≤ 272 := by
              rw [← hP]
              exact Nat.mul_le_mul (show 2 * i ≤ 16 by omega) (show 2 * i + 1 ≤ 17 by omega)
            have hPI : (2 : Int) * (i : Int) * (2 * (i : Int) + 1) = (P : Int) := by rw [← hP]; simp
            rw [hP] at hc
            have i1 : 1 ≤ i := by omega
            have i8 : i ≤ 8 := by omega
            have HI := Lib.hid hi
            have HP' := Lib.hid hP
            clear hi hP
            have hp1 : ∃ x, ser u j = x := ⟨_, rfl⟩
            obtain ⟨x, hx⟩ := hp1
            rw [hx] at p1 q1 p2 q2 p3' q3' ⊢
            clear hx
            generalize F .mul u x = x1 at *
            generalize Wd i = wd at *
            generalize F .quo x1 wd = x2 at *
            go_wp2
            go_round
            case rel => exact ⟨j + 1, by omega, by (have h1 := HI.out; rw [show 8 - (j + 1) = i - 1 by omega]; go_num), rfl⟩
            case measure => simp [intOf]; omega
          · obtain rfl : j = 8 := by omega
            generalize ser u 8 = p8 at *
            go_wp2
            go_ret
            exact ⟨ret_float ER.out.symm, rfl⟩
  
  · have hl' : (FloatKind.f64.format.order f0 0 == some .lt) = true := hl
    have e1 : fr1 f0 = F .add f0 W1 := by unfold fr1; rw [hl]; rfl
    rw [e1] at H ⊢
    clear hl e1
    obtain ⟨f, hf⟩ : ∃ f, F .add f0 W1 = f := ⟨_, rfl⟩
    rw [hf] at hb1 H ⊢
    clear hf
    cases g1 : geH f
    · cases g2 : gtQ (fr2 f)
      · skip
        obtain ⟨s1, s2⟩ := opf H.s2
        obtain ⟨s3, s4⟩ := opf H.s3
        obtain ⟨z1, z2⟩ := opf H.z
        obtain ⟨u1, u2⟩ := opf H.u
        obtain ⟨v1, v2⟩ := opf H.v
        have HP := Lib.hid H.p
        have e2 : fr2 f = f := by unfold fr2; rw [g1]; rfl
        have e3 : fr3 (fr2 f) = fr2 f := by unfold fr3; rw [g2]; rfl
        have er : sinF f = sp f := by unfold sinF; rw [g1]; rfl
        have ER := Lib.hid er
        have g1' : (FloatKind.f64.format.order f 4602678819172646912 == some .gt || FloatKind.f64.format.order f 4602678819172646912 == some .eq) = false := g1
        have g2' : (FloatKind.f64.format.order (fr2 f) 4598175219545276416 == some .gt) = false := g2
        rw [e3] at z1 z2
        have s1' : ∀ w, fres .sub .f64 w f 4602678819172646912 = F .sub f Whalf := s1
        have s2' : fcnt .sub .f64 f 4602678819172646912 = 0 := s2
        have s3' : ∀ w, fres .sub .f64 w 4602678819172646912 (fr2 f) = F .sub Whalf (fr2 f) := s3
        have s4' : fcnt .sub .f64 4602678819172646912 (fr2 f) = 0 := s4
        clear s1 s2 s3 s4 er e3 g1 g2 H
        rw [e2] at s3' s4' g2' z1 z2
        have z1' : ∀ w, fres .mul .f64 w _ 4618760256179416344 = sz f := z1
        have z2' : fcnt .mul .f64 _ 4618760256179416344 = 0 := z2
        clear z1 z2 e2
        generalize sz f = z at *
        have EU := Lib.hid (rfl : su f = su f)
        generalize su f = u at *
        generalize hv : sp f = v at *
        clear hv EU
        go_enter Try.func72, Try.ntmps72
        go_wp2
        go_loop [7, 8] (fun p k => ∃ j : Nat, j ≤ 8 ∧ k = .int .i64 ((8 - j : Nat) : Int) ∧ p = .float .f64 (ser u j)) (fun _ k => (intOf k).toNat)
        case atStart => exact ⟨0, by omega, rfl, rfl⟩
        case round =>
          obtain ⟨j, hj, rfl, rfl⟩ := hrel
          by_cases hlt : j < 8
          · obtain ⟨p1, p2, p3⟩ := HP.out j hlt
            obtain ⟨p1, q1⟩ := opf p1
            obtain ⟨p2, q2⟩ := opf p2
            obtain ⟨p3, q3⟩ := opf p3
            have p3' : ∀ w, fres .sub .f64 w 4607182418800017408 _ = _ := p3
            have q3' : fcnt .sub .f64 4607182418800017408 _ = 0 := q3
            clear p3 q3
            obtain ⟨i, hi⟩ : ∃ i, 8 - j = i := ⟨_, rfl⟩
            rw [hi] at p2 q2 p3' q3' ⊢
            have hc := loopI i (by omega)
            obtain ⟨P, hP⟩ : ∃ P : Nat, 2 * i * (2 * i + 1) = P := ⟨_, rfl⟩
            have hP2 : P ≤ 272 := by
              rw [← hP]
              exact Nat.mul_le_mul (show 2 * i ≤ 16 by omega) (show 2 * i + 1 ≤ 17 by omega)
            have hPI : (2 : Int) * (i : Int) * (2 * (i : Int) + 1) = (P : Int) := by rw [← hP]; simp
            rw [hP] at hc
            have i1 : 1 ≤ i := by omega
            have i8 : i ≤ 8 := by omega
            have HI := Lib.hid hi
            have HP' := Lib.hid hP
            clear hi hP
            have hp1 : ∃ x, ser u j = x := ⟨_, rfl⟩
            obtain ⟨x, hx⟩ := hp1
            rw [hx] at p1 q1 p2 q2 p3' q3' ⊢
            clear hx
            generalize F .mul u x = x1 at *
            generalize Wd i = wd at *
            generalize F .quo x1 wd = x2 at *
            go_wp2
            go_round
            case rel => exact ⟨j + 1, by omega, by (have h1 := HI.out; rw [show 8 - (j + 1) = i - 1 by omega]; go_num), rfl⟩
            case measure => simp [intOf]; omega
          · obtain rfl : j = 8 := by omega
            generalize ser u 8 = p8 at *
            go_wp2
            go_ret
            exact ⟨ret_float ER.out.symm, rfl⟩
  
      · skip
        obtain ⟨s1, s2⟩ := opf H.s2
        obtain ⟨s3, s4⟩ := opf H.s3
        obtain ⟨z1, z2⟩ := opf H.z
        obtain ⟨u1, u2⟩ := opf H.u
        obtain ⟨v1, v2⟩ := opf H.v
        have HP := Lib.hid H.p
        have e2 : fr2 f = f := by unfold fr2; rw [g1]; rfl
        have e3 : fr3 (fr2 f) = F .sub Whalf (fr2 f) := by unfold fr3; rw [g2]; rfl
        have er : sinF f = sp f := by unfold sinF; rw [g1]; rfl
        have ER := Lib.hid er
        have g1' : (FloatKind.f64.format.order f 4602678819172646912 == some .gt || FloatKind.f64.format.order f 4602678819172646912 == some .eq) = false := g1
        have g2' : (FloatKind.f64.format.order (fr2 f) 4598175219545276416 == some .gt) = true := g2
        rw [e3] at z1 z2
        have s1' : ∀ w, fres .sub .f64 w f 4602678819172646912 = F .sub f Whalf := s1
        have s2' : fcnt .sub .f64 f 4602678819172646912 = 0 := s2
        have s3' : ∀ w, fres .sub .f64 w 4602678819172646912 (fr2 f) = F .sub Whalf (fr2 f) := s3
        have s4' : fcnt .sub .f64 4602678819172646912 (fr2 f) = 0 := s4
        clear s1 s2 s3 s4 er e3 g1 g2 H
        rw [e2] at s3' s4' g2' z1 z2
        have z1' : ∀ w, fres .mul .f64 w _ 4618760256179416344 = sz f := z1
        have z2' : fcnt .mul .f64 _ 4618760256179416344 = 0 := z2
        clear z1 z2 e2
        generalize F .sub Whalf f = f3 at *
        generalize sz f = z at *
        have EU := Lib.hid (rfl : su f = su f)
        generalize su f = u at *
        generalize hv : sp f = v at *
        clear hv EU
        go_enter Try.func72, Try.ntmps72
        go_wp2
        go_loop [7, 8] (fun p k => ∃ j : Nat, j ≤ 8 ∧ k = .int .i64 ((8 - j : Nat) : Int) ∧ p = .float .f64 (ser u j)) (fun _ k => (intOf k).toNat)
        case atStart => exact ⟨0, by omega, rfl, rfl⟩
        case round =>
          obtain ⟨j, hj, rfl, rfl⟩ := hrel
          by_cases hlt : j < 8
          · obtain ⟨p1, p2, p3⟩ := HP.out j hlt
            obtain ⟨p1, q1⟩ := opf p1
            obtain ⟨p2, q2⟩ := opf p2
            obtain ⟨p3, q3⟩ := opf p3
            have p3' : ∀ w, fres .sub .f64 w 4607182418800017408 _ = _ := p3
            have q3' : fcnt .sub .f64 4607182418800017408 _ = 0 := q3
            clear p3 q3
            obtain ⟨i, hi⟩ : ∃ i, 8 - j = i := ⟨_, rfl⟩
            rw [hi] at p2 q2 p3' q3' ⊢
            have hc := loopI i (by omega)
            obtain ⟨P, hP⟩ : ∃ P : Nat, 2 * i * (2 * i + 1) = P := ⟨_, rfl⟩
            have hP2 : P ≤ 272 := by
              rw [← hP]
              exact Nat.mul_le_mul (show 2 * i ≤ 16 by omega) (show 2 * i + 1 ≤ 17 by omega)
            have hPI : (2 : Int) * (i : Int) * (2 * (i : Int) + 1) = (P : Int) := by rw [← hP]; simp
            rw [hP] at hc
            have i1 : 1 ≤ i := by omega
            have i8 : i ≤ 8 := by omega
            have HI := Lib.hid hi
            have HP' := Lib.hid hP
            clear hi hP
            have hp1 : ∃ x, ser u j = x := ⟨_, rfl⟩
            obtain ⟨x, hx⟩ := hp1
            rw [hx] at p1 q1 p2 q2 p3' q3' ⊢
            clear hx
            generalize F .mul u x = x1 at *
            generalize Wd i = wd at *
            generalize F .quo x1 wd = x2 at *
            go_wp2
            go_round
            case rel => exact ⟨j + 1, by omega, by (have h1 := HI.out; rw [show 8 - (j + 1) = i - 1 by omega]; go_num), rfl⟩
            case measure => simp [intOf]; omega
          · obtain rfl : j = 8 := by omega
            generalize ser u 8 = p8 at *
            go_wp2
            go_ret
            exact ⟨ret_float ER.out.symm, rfl⟩
  
    · cases g2 : gtQ (fr2 f)
      · skip
        obtain ⟨s1, s2⟩ := opf H.s2
        obtain ⟨s3, s4⟩ := opf H.s3
        obtain ⟨z1, z2⟩ := opf H.z
        obtain ⟨u1, u2⟩ := opf H.u
        obtain ⟨v1, v2⟩ := opf H.v
        have HP := Lib.hid H.p
        have e2 : fr2 f = F .sub f Whalf := by unfold fr2; rw [g1]; rfl
        have e3 : fr3 (fr2 f) = fr2 f := by unfold fr3; rw [g2]; rfl
        have er : sinF f = Op.negFloat .f64 (sp f) := by unfold sinF; rw [g1]; rfl
        have ER := Lib.hid er
        have g1' : (FloatKind.f64.format.order f 4602678819172646912 == some .gt || FloatKind.f64.format.order f 4602678819172646912 == some .eq) = true := g1
        have g2' : (FloatKind.f64.format.order (fr2 f) 4598175219545276416 == some .gt) = false := g2
        rw [e3] at z1 z2
        have s1' : ∀ w, fres .sub .f64 w f 4602678819172646912 = F .sub f Whalf := s1
        have s2' : fcnt .sub .f64 f 4602678819172646912 = 0 := s2
        have s3' : ∀ w, fres .sub .f64 w 4602678819172646912 (fr2 f) = F .sub Whalf (fr2 f) := s3
        have s4' : fcnt .sub .f64 4602678819172646912 (fr2 f) = 0 := s4
        clear s1 s2 s3 s4 er e3 g1 g2 H
        rw [← e2] at s1'
        have z1' : ∀ w, fres .mul .f64 w _ 4618760256179416344 = sz f := z1
        have z2' : fcnt .mul .f64 _ 4618760256179416344 = 0 := z2
        clear z1 z2 e2
        generalize fr2 f = f2 at *
        generalize sz f = z at *
        have EU := Lib.hid (rfl : su f = su f)
        generalize su f = u at *
        generalize hv : sp f = v at *
        clear hv EU
        go_enter Try.func72, Try.ntmps72
        go_wp2
        go_loop [7, 8] (fun p k => ∃ j : Nat, j ≤ 8 ∧ k = .int .i64 ((8 - j : Nat) : Int) ∧ p = .float .f64 (ser u j)) (fun _ k => (intOf k).toNat)
        case atStart => exact ⟨0, by omega, rfl, rfl⟩
        case round =>
          obtain ⟨j, hj, rfl, rfl⟩ := hrel
          by_cases hlt : j < 8
          · obtain ⟨p1, p2, p3⟩ := HP.out j hlt
            obtain ⟨p1, q1⟩ := opf p1
            obtain ⟨p2, q2⟩ := opf p2
            obtain ⟨p3, q3⟩ := opf p3
            have p3' : ∀ w, fres .sub .f64 w 4607182418800017408 _ = _ := p3
            have q3' : fcnt .sub .f64 4607182418800017408 _ = 0 := q3
            clear p3 q3
            obtain ⟨i, hi⟩ : ∃ i, 8 - j = i := ⟨_, rfl⟩
            rw [hi] at p2 q2 p3' q3' ⊢
            have hc := loopI i (by omega)
            obtain ⟨P, hP⟩ : ∃ P : Nat, 2 * i * (2 * i + 1) = P := ⟨_, rfl⟩
            have hP2 : P ≤ 272 := by
              rw [← hP]
              exact Nat.mul_le_mul (show 2 * i ≤ 16 by omega) (show 2 * i + 1 ≤ 17 by omega)
            have hPI : (2 : Int) * (i : Int) * (2 * (i : Int) + 1) = (P : Int) := by rw [← hP]; simp
            rw [hP] at hc
            have i1 : 1 ≤ i := by omega
            have i8 : i ≤ 8 := by omega
            have HI := Lib.hid hi
            have HP' := Lib.hid hP
            clear hi hP
            have hp1 : ∃ x, ser u j = x := ⟨_, rfl⟩
            obtain ⟨x, hx⟩ := hp1
            rw [hx] at p1 q1 p2 q2 p3' q3' ⊢
            clear hx
            generalize F .mul u x = x1 at *
            generalize Wd i = wd at *
            generalize F .quo x1 wd = x2 at *
            go_wp2
            go_round
            case rel => exact ⟨j + 1, by omega, by (have h1 := HI.out; rw [show 8 - (j + 1) = i - 1 by omega]; go_num), rfl⟩
            case measure => simp [intOf]; omega
          · obtain rfl : j = 8 := by omega
            generalize ser u 8 = p8 at *
            go_wp2
            go_ret
            exact ⟨ret_float ER.out.symm, rfl⟩
  
      · skip
        obtain ⟨s1, s2⟩ := opf H.s2
        obtain ⟨s3, s4⟩ := opf H.s3
        obtain ⟨z1, z2⟩ := opf H.z
        obtain ⟨u1, u2⟩ := opf H.u
        obtain ⟨v1, v2⟩ := opf H.v
        have HP := Lib.hid H.p
        have e2 : fr2 f = F .sub f Whalf := by unfold fr2; rw [g1]; rfl
        have e3 : fr3 (fr2 f) = F .sub Whalf (fr2 f) := by unfold fr3; rw [g2]; rfl
        have er : sinF f = Op.negFloat .f64 (sp f) := by unfold sinF; rw [g1]; rfl
        have ER := Lib.hid er
        have g1' : (FloatKind.f64.format.order f 4602678819172646912 == some .gt || FloatKind.f64.format.order f 4602678819172646912 == some .eq) = true := g1
        have g2' : (FloatKind.f64.format.order (fr2 f) 4598175219545276416 == some .gt) = true := g2
        rw [e3] at z1 z2
        have s1' : ∀ w, fres .sub .f64 w f 4602678819172646912 = F .sub f Whalf := s1
        have s2' : fcnt .sub .f64 f 4602678819172646912 = 0 := s2
        have s3' : ∀ w, fres .sub .f64 w 4602678819172646912 (fr2 f) = F .sub Whalf (fr2 f) := s3
        have s4' : fcnt .sub .f64 4602678819172646912 (fr2 f) = 0 := s4
        clear s1 s2 s3 s4 er e3 g1 g2 H
        rw [← e2] at s1'
        have z1' : ∀ w, fres .mul .f64 w _ 4618760256179416344 = sz f := z1
        have z2' : fcnt .mul .f64 _ 4618760256179416344 = 0 := z2
        clear z1 z2 e2
        generalize fr2 f = f2 at *
        generalize F .sub Whalf f2 = f3 at *
        generalize sz f = z at *
        have EU := Lib.hid (rfl : su f = su f)
        generalize su f = u at *
        generalize hv : sp f = v at *
        clear hv EU
        go_enter Try.func72, Try.ntmps72
        go_wp2
        go_loop [7, 8] (fun p k => ∃ j : Nat, j ≤ 8 ∧ k = .int .i64 ((8 - j : Nat) : Int) ∧ p = .float .f64 (ser u j)) (fun _ k => (intOf k).toNat)
        case atStart => exact ⟨0, by omega, rfl, rfl⟩
        case round =>
          obtain ⟨j, hj, rfl, rfl⟩ := hrel
          by_cases hlt : j < 8
          · obtain ⟨p1, p2, p3⟩ := HP.out j hlt
            obtain ⟨p1, q1⟩ := opf p1
            obtain ⟨p2, q2⟩ := opf p2
            obtain ⟨p3, q3⟩ := opf p3
            have p3' : ∀ w, fres .sub .f64 w 4607182418800017408 _ = _ := p3
            have q3' : fcnt .sub .f64 4607182418800017408 _ = 0 := q3
            clear p3 q3
            obtain ⟨i, hi⟩ : ∃ i, 8 - j = i := ⟨_, rfl⟩
            rw [hi] at p2 q2 p3' q3' ⊢
            have hc := loopI i (by omega)
            obtain ⟨P, hP⟩ : ∃ P : Nat, 2 * i * (2 * i + 1) = P := ⟨_, rfl⟩
            have hP2 : P ≤ 272 := by
              rw [← hP]
              exact Nat.mul_le_mul (show 2 * i ≤ 16 by omega) (show 2 * i + 1 ≤ 17 by omega)
            have hPI : (2 : Int) * (i : Int) * (2 * (i : Int) + 1) = (P : Int) := by rw [← hP]; simp
            rw [hP] at hc
            have i1 : 1 ≤ i := by omega
            have i8 : i ≤ 8 := by omega
            have HI := Lib.hid hi
            have HP' := Lib.hid hP
            clear hi hP
            have hp1 : ∃ x, ser u j = x := ⟨_, rfl⟩
            obtain ⟨x, hx⟩ := hp1
            rw [hx] at p1 q1 p2 q2 p3' q3' ⊢
            clear hx
            generalize F .mul u x = x1 at *
            generalize Wd i = wd at *
            generalize F .quo x1 wd = x2 at *
            go_wp2
            go_round
            case rel => exact ⟨j + 1, by omega, by (have h1 := HI.out; rw [show 8 - (j + 1) = i - 1 by omega]; go_num), rfl⟩
            case measure => simp [intOf]; omega
          · obtain rfl : j = 8 := by omega
            generalize ser u 8 = p8 at *
            go_wp2
            go_ret
            exact ⟨ret_float ER.out.symm, rfl⟩
  
end Go.Proofs.Ytbphigmpcjodkaa
