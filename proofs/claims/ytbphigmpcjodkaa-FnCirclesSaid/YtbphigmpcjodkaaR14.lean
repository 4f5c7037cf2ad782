/-
  Walks: the law PhasorOf. Conditions: none.
-/
import Derived.Test.YtbphigmpcjodkaaPh
import Derived.Test.YtbphigmpcjodkaaR6
set_option linter.unusedVariables false
set_option linter.unusedSimpArgs false
namespace Go.Proofs.Ytbphigmpcjodkaa
open Go Go.RowKit Flo Val Fb

attribute [local go_sem] run_store_float run_fadd run_fsub run_fmul run_fquo run_fconv World.drewN_zero run_f64from run_f64bits unary_negF

theorem run_cconv {P : Program} (w : World) (src dst : TypeId) (s k : FloatKind) (a b : Nat) (hs : (P.underlying src).isSome = true) (hd : P.underlying dst = some (.complex k)) :
    (convert src dst (.complex s a b)).run P w = .ok (.complex k (cres s k w a) (cres s k (w.drewN (ccnt s k a)) b)) ((w.drewN (ccnt s k a)).drewN (ccnt s k b)) := by
  obtain ⟨u, hs'⟩ := Option.isSome_iff_exists.1 hs
  have key : ∀ (w : World) (b : Nat), (Conv.floatToFloat s b k).run P w = .ok (.float k (cres s k w b)) (w.drewN (ccnt s k b)) := by
    intro w b
    by_cases hk : s = k
    · subst hk
      simp [Conv.floatToFloat, cres, ccnt, World.drewN_zero]
    · cases he : s.decode b with
      | nan g t => simp [Conv.floatToFloat, cres, ccnt, hk, he, choose, Sem.run, Question.forced, World.drewN]
      | infinity g => simp [Conv.floatToFloat, cres, ccnt, hk, he, World.drewN_zero]
      | number g m e =>
        by_cases ho : (k.decode (k.encode (.number g m e))).isInfinity = true
        · simp [Conv.floatToFloat, cres, ccnt, hk, he, ho, choose, Sem.run, Question.forced, World.drewN]
        · simp [Conv.floatToFloat, cres, ccnt, hk, he, ho, World.drewN_zero]
  cases u <;> simp [convert, run_underlying hs', run_underlying hd, Conv.complexToComplex, key]
attribute [local go_sem] run_cconv

theorem run_f32from (x : Int) (w : World) : (callFunc 84 #[.int .u32 x]).run Try.prog w = .ok (.value (.float .f32 x.toNat)) w := by kernel_rfl
attribute [local go_sem] run_f32from

theorem tn_bd {y : Nat} {e : Int} (he : e ≤ 50) (h : Bd Ieee.double e y) : ∃ I f0, Tn y I f0 := by
  obtain ⟨s, m, p, hr, hle⟩ := h
  obtain ⟨h1, h2⟩ := read_shape hr
  have hp : p < 0 := by
    rcases h2 with ⟨_, rfl⟩ | ⟨h3, h4⟩
    · decide
    · by_cases hp : p < 0
      · exact hp
      · exfalso
        unfold Le at hle
        have h5 : (e - p).toNat ≤ 50 := by omega
        have h6 : 2 ^ (e - p).toNat ≤ 2 ^ 50 := Nat.pow_le_pow_right (by decide) h5
        have h7 : m * 1 ≤ m * 2 ^ (p - e).toNat := Nat.mul_le_mul_left _ (Nat.two_pow_pos _)
        omega
  obtain ⟨d, rfl⟩ : ∃ d : Nat, p = -(d : Int) := ⟨(-p).toNat, by omega⟩
  exact tn_of hr (by omega) (Nat.lt_of_le_of_lt (Nat.div_le_self _ _) (by omega))

/-- The tests on 2 ^ 52 and -2 ^ 52. -/
theorem tests64 {y : Nat} {g : Bool} {m : Nat} {p : Int} (hr : Ieee.double.read y = .number g m p) :
    (FloatKind.f64.format.order (y % 9223372036854775808) 4841369599423283200 == some .gt || FloatKind.f64.format.order (y % 9223372036854775808) 4841369599423283200 == some .eq) = bigB m p ∧
    (FloatKind.f64.format.order y 4841369599423283200 == some .gt || FloatKind.f64.format.order y 4841369599423283200 == some .eq) = (!g && bigB m p) ∧
    (FloatKind.f64.format.order y 14064741636278059008 == some .lt || FloatKind.f64.format.order y 14064741636278059008 == some .eq) = (g && bigB m p) := by
  have hc : Ieee.double.read 4841369599423283200 = .number false 4503599627370496 0 := by decide +kernel
  have hc2 : Ieee.double.read 14064741636278059008 = .number true 4503599627370496 0 := by decide +kernel
  have hX : 0 ≤ scal false m p := by unfold scal Ieee.signed; rw [if_neg (by decide)]; exact Int.natCast_nonneg _
  have hC := scalC_pos
  have hf : ∀ a b, FloatKind.f64.format.order a b = (Ieee.double.read a).order (Ieee.double.read b) := fun _ _ => rfl
  have hp : -1074 ≤ p := by rcases (read_shape hr).2 with ⟨_, h⟩ | ⟨_, h⟩ <;> omega
  have e1 : scal true 4503599627370496 0 = -scalC := by rw [scal_neg]; rfl
  have e0 : scal false 4503599627370496 0 = scalC := rfl
  unfold bigB
  rw [hf, hf, hf, read_abs hr, hr, hc, hc2, order_number _ _ _ _ _ _ (by omega) (by decide), order_number _ _ _ _ _ _ (by omega) (by decide), order_number _ _ _ _ _ _ (by omega) (by decide), ge_cmp, ge_cmp, le_cmp, e0, e1]
  have hg : scal g m p = if g then -scal false m p else scal false m p := by cases g; rfl; exact scal_neg m p
  rw [hg]
  generalize scal false m p = X at *
  generalize scalC = C at *
  refine ⟨rfl, ?_, ?_⟩
  · cases g
    · simp
    · simp; omega
  · cases g
    · simp; omega
    · simp

theorem bd_of_small {y m : Nat} {g : Bool} {p : Int} (hr : Ieee.double.read y = .number g m p) (hb : bigB m p = false) : ∃ I f0, Tn y I f0 := by
  obtain ⟨h1, h2⟩ := read_shape hr
  have hneg : p < 0 := by
    rcases h2 with ⟨_, rfl⟩ | ⟨h3, h4⟩
    · decide
    · by_cases hp : p < 0
      · exact hp
      · exfalso
        unfold bigB at hb
        have hb' := of_decide_eq_false hb
        obtain ⟨b, hb3⟩ : ∃ b, b = 3000 := ⟨_, rfl⟩
        have e1 : scal false m p = Ieee.signed false m p.toNat * (2 ^ b : Nat) := by
          unfold scal; rw [← signed_mul]; congr 1; omega
        have e2 : scalC = Ieee.signed false 4503599627370496 0 * (2 ^ b : Nat) := by
          unfold scalC scal; rw [← signed_mul]; congr 1; omega
        have hT : 0 < 2 ^ b := Nat.two_pow_pos b
        rw [e1, e2] at hb'
        clear e1 e2 hb3
        generalize 2 ^ b = T at *
        rw [signed_pos, signed_pos, Nat.pow_zero, Nat.mul_one] at hb'
        have h5 : m * 1 ≤ m * 2 ^ p.toNat := Nat.mul_le_mul_left _ (Nat.two_pow_pos _)
        have h6 : 4503599627370496 ≤ m * 2 ^ p.toNat := by omega
        generalize m * 2 ^ p.toNat = X at *
        refine hb' (Int.mul_le_mul_of_nonneg_right (by omega) (by omega))
  obtain ⟨d, rfl⟩ : ∃ d : Nat, p = -(d : Int) := ⟨(-p).toNat, by omega⟩
  exact tn_of hr (by omega) (Nat.lt_of_le_of_lt (Nat.div_le_self _ _) (by omega))

/-- A number of at most 8 is below 2 ^ 52. -/
theorem small_tests {y : Nat} (h : Bd Ieee.double 3 y) : floatBits .sub .f64 y y = some 0 ∧
    (FloatKind.f64.format.order y 4841369599423283200 == some .gt || FloatKind.f64.format.order y 4841369599423283200 == some .eq) = false ∧
    (FloatKind.f64.format.order y 14064741636278059008 == some .lt || FloatKind.f64.format.order y 14064741636278059008 == some .eq) = false := by
  obtain ⟨g, m, p, hr, hle⟩ := h
  obtain ⟨_, t2, t3⟩ := tests64 hr
  have hb : bigB m p = false := by
    unfold bigB
    refine decide_eq_false fun hc => ?_
    have hp : -1074 ≤ p := by rcases (read_shape hr).2 with ⟨_, h⟩ | ⟨_, h⟩ <;> omega
    unfold scalC scal at hc
    rw [signed_pos, signed_pos] at hc
    unfold Le at hle
    have h1 : m * 2 ^ (p - 3).toNat * 2 ^ (min p 3 + 3000).toNat ≤ 2 ^ (3 - p).toNat * 2 ^ (min p 3 + 3000).toNat := Nat.mul_le_mul_right _ hle
    rw [Nat.mul_assoc, ← Nat.pow_add, ← Nat.pow_add, show (p - 3).toNat + (min p 3 + 3000).toNat = (p + 3000).toNat by omega, show (3 - p).toNat + (min p 3 + 3000).toNat = 3 + ((0 : Int) + 3000).toNat by omega, Nat.pow_add] at h1
    have h2 : 0 < 2 ^ ((0 : Int) + 3000).toNat := Nat.two_pow_pos _
    generalize 2 ^ ((0 : Int) + 3000).toNat = T at *
    generalize m * 2 ^ (p + 3000).toNat = X at *
    omega
  rw [hb, Bool.and_false] at t2 t3
  exact ⟨sub_self hr, t2, t3⟩

/-- A complex number's contract. -/
def C32 (Vr Vi : Nat) (w : World) (e : Ending) (w' : World) : Prop := ∃ a b, e = .returned (.complex .f32 a b) ∧ Like .f32 a Vr ∧ Like .f32 b Vi ∧ Dr w w'

theorem l01From_any (w : World) : Calls Try.prog 79 #[.int .i64 2143289344] w fun e w' => e = .returned (.float .f32 2143289344) ∧ w = w' := by
  go_enter Try.func79, Try.ntmps79
  go_wp2
  go_ret
  exact ⟨rfl, rfl⟩

theorem fin64_yes {y : Nat} (h : floatBits .sub .f64 y y = some 0) (w : World) : Calls Try.prog 63 #[.float .f64 y] w fun e w' => e = .returned (.bool true) ∧ w = w' := by
  obtain ⟨y1, y2⟩ := opf h
  have o00 : (FloatKind.f64.format.order 0 0 == some .eq) = true := by decide +kernel
  go_enter Try.func63, Try.ntmps63
  go_wp2
  go_ret
  exact ⟨rfl, rfl⟩

theorem fin64_no {y : Nat} (h : floatBits .sub .f64 y y = none) (w : World) : Calls Try.prog 63 #[.float .f64 y] w fun e w' => e = .returned (.bool false) ∧ Dr w w' := by
  have hn : ∀ w, (FloatKind.f64.format.order (fres .sub .f64 w y y) 0 == some .eq) = false := fun w => by rw [order_nan_left (fres_none h)]; rfl
  clear h
  go_enter Try.func63, Try.ntmps63
  go_wp2
  go_ret
  first | exact ⟨rfl, ⟨_, rfl⟩⟩ | exact ⟨ret_bool (hn _), ⟨_, rfl⟩⟩

theorem qs_lt {y I f0 : Nat} {i : Int} (h : Tn y i f0) : fr1 f0 < 18446744073709551616 := by
  have hb := (fr1_bd h.bd).1
  have h0 : f0 < 2 ^ 64 := Ieee.Format.sub_lt Ieee.double h.sub
  unfold fr1
  split
  · exact Ieee.Format.add_lt Ieee.double hb
  · exact h0

theorem zero_bd : Bd Ieee.double 0 0 := bd_of (by decide +kernel)

/-- What the four quarters give: the words of both parts. -/
def pcV (J c s : Nat) : Nat := if J = 1 then F .sub 0 s else if J = 2 then F .sub 0 c else if J = 3 then s else c
def psV (J c s : Nat) : Nat := if J = 1 then c else if J = 2 then F .sub 0 s else if J = 3 then F .sub 0 c else s

/-- A phasor's words: y's fraction f, after J quarters e; the two sines. -/
structure Pz (y : Nat) (I : Int) (f0 J : Nat) (Ic : Int) (fc : Nat) (Is : Int) (fs : Nat) : Prop where
  tn : Tn y I f0
  q : Qs (fr1 f0) J
  z : floatBits .sub .f64 Wquarter (qs (fr1 f0) J) = some (F .sub Wquarter (qs (fr1 f0) J))
  zb : Bd Ieee.double 3 (F .sub Wquarter (qs (fr1 f0) J))
  tc : Tn (F .sub Wquarter (qs (fr1 f0) J)) Ic fc
  ts : Tn (qs (fr1 f0) J) Is fs

theorem pz_of {y f0 : Nat} {I : Int} (h : Tn y I f0) : ∃ J Ic fc Is fs, Pz y I f0 J Ic fc Is fs := by
  obtain ⟨J, hq⟩ := qs_any (qs_lt (I := 0) h) (fr1_bd h.bd).2
  obtain ⟨hz, hzb⟩ := F_sub (e := 3) consts.2.2.1 hq.bd (by decide) (by decide) (by decide) (by decide)
  obtain ⟨Ic, fc, hc⟩ := tn_bd (by decide) hzb
  obtain ⟨Is, fs, hs⟩ := tn_bd (e := 2) (by decide) hq.bd
  exact ⟨J, Ic, fc, Is, fs, h, hq, hz, hzb, hc, hs⟩

/-- What is left of the sines and their opposites. -/
structure Ps (fc fs : Nat) : Prop where
  nc : floatBits .sub .f64 0 (sinF (fr1 fc)) = some (F .sub 0 (sinF (fr1 fc)))
  ns : floatBits .sub .f64 0 (sinF (fr1 fs)) = some (F .sub 0 (sinF (fr1 fs)))
  oc : tooGreat .f64 .f32 (sinF (fr1 fc)) = false
  os : tooGreat .f64 .f32 (sinF (fr1 fs)) = false
  onc : tooGreat .f64 .f32 (F .sub 0 (sinF (fr1 fc))) = false
  ons : tooGreat .f64 .f32 (F .sub 0 (sinF (fr1 fs))) = false

theorem ps_of {z e fc fs : Nat} {Ic Is : Int} (hc : Tn z Ic fc) (hs : Tn e Is fs) : Ps fc fs := by
  have bc := sinF_bd (fr1_bd hc.bd).2
  have bs := sinF_bd (fr1_bd hs.bd).2
  obtain ⟨a, b⟩ := F_sub (e := 83) zero_bd bc (by decide) (by decide) (by decide) (by decide)
  obtain ⟨c, d⟩ := F_sub (e := 83) zero_bd bs (by decide) (by decide) (by decide) (by decide)
  exact ⟨a, c, narrow_bd bc (by decide), narrow_bd bs (by decide), narrow_bd b (by decide), narrow_bd d (by decide)⟩

def qOf : Value → Nat
  | .int _ x => x.toNat
  | _ => 0

set_option maxHeartbeats 8000000 in
set_option maxRecDepth 100000 in
theorem l01Phasor_any {y f0 J fc fs : Nat} {I Ic Is : Int} (h : Pz y I f0 J Ic fc Is fs) (hyy : floatBits .sub .f64 y y = some 0)
    (hA : (FloatKind.f64.format.order y 4841369599423283200 == some .gt || FloatKind.f64.format.order y 4841369599423283200 == some .eq) = false) (hB : (FloatKind.f64.format.order y 14064741636278059008 == some .lt || FloatKind.f64.format.order y 14064741636278059008 == some .eq) = false) (w : World) :
    Calls Try.prog 62 #[.float .f64 y] w (C32 (fconv .f64 .f32 (pcV J (sinF (fr1 fc)) (sinF (fr1 fs)))) (fconv .f64 .f32 (psV J (sinF (fr1 fc)) (sinF (fr1 fs)))) w) := by
  have PS := ps_of h.tc h.ts
  obtain ⟨y1, y2⟩ := opf hyy
  have hc := h.tn.conv
  obtain ⟨a1, a2⟩ := opf h.tn.sub
  obtain ⟨b1, b2⟩ := opf (fr1_bd h.tn.bd).1
  have hb1 : ∀ w, fres .add .f64 w f0 4607182418800017408 = F .add f0 W1 := b1
  have hb2 : fcnt .add .f64 f0 4607182418800017408 = 0 := b2
  have o00 : (FloatKind.f64.format.order 0 0 != some .eq) = false := by decide +kernel
  have HQ := Lib.hid h.q; have HZ := Lib.hid h.z
  have HTC := Lib.hid h.tc; have HTS := Lib.hid h.ts
  have HSC := Lib.hid (small_tests h.zb)
  have HSS := Lib.hid (small_tests (h.q.bd.mono (by decide : (2 : Int) ≤ 3)))
  have HPS := Lib.hid PS
  clear b1 b2 h hyy PS
  cases hl : lt0 f0
  · have hl' : (FloatKind.f64.format.order f0 0 == some .lt) = false := hl
    have e1 : fr1 f0 = f0 := by unfold fr1; rw [hl]; rfl
    rw [e1] at HQ HZ HTC HTS HSC HSS
    clear hl e1 hb1 hb2
    go_enter Try.func62, Try.ntmps62
    go_wp2
    go_loop [3, 4] (fun fv q => ∃ j : Nat, j ≤ J ∧ fv = .float .f64 (qs f0 j) ∧ q = .int .i64 (j : Int)) (fun _ q => J - qOf q)
    case atStart => exact ⟨0, by omega, rfl, rfl⟩
    case round =>
      obtain ⟨j, hj, rfl, rfl⟩ := hrel
      have hJb := HQ.out.le
      by_cases hlt : j < J
      · obtain ⟨s1, s2, _⟩ := HQ.out.step j hlt
        have gq : (FloatKind.f64.format.order (qs f0 j) 4598175219545276416 == some .gt || FloatKind.f64.format.order (qs f0 j) 4598175219545276416 == some .eq) = true := s1
        obtain ⟨q1, q2⟩ := opf s2
        have q1' : ∀ w, fres .sub .f64 w (qs f0 j) 4598175219545276416 = qs f0 (j + 1) := q1
        have q2' : fcnt .sub .f64 (qs f0 j) 4598175219545276416 = 0 := q2
        clear q1 q2 s1 s2
        obtain ⟨qn, hqn⟩ : ∃ z, qs f0 (j + 1) = z := ⟨_, rfl⟩
        rw [hqn] at q1'
        have HQN := Lib.hid hqn
        clear hqn
        generalize qs f0 j = qj at *
        go_wp2
        go_round
        case rel => exact ⟨j + 1, by omega, by rw [HQN.out], by go_num⟩
        case measure => simp [qOf]; omega
      · obtain rfl : j = J := by omega
        have hst : (FloatKind.f64.format.order (qs f0 j) 4598175219545276416 == some .gt || FloatKind.f64.format.order (qs f0 j) 4598175219545276416 == some .eq) = false := HQ.out.stop
        obtain ⟨z1, z2⟩ := opf HZ.out
        have z1' : ∀ w, fres .sub .f64 w 4598175219545276416 (qs f0 j) = F .sub Wquarter (qs f0 j) := z1
        have z2' : fcnt .sub .f64 4598175219545276416 (qs f0 j) = 0 := z2
        clear z1 z2 HZ hlt hj
        obtain ⟨zw, hzw⟩ : ∃ z, F .sub Wquarter (qs f0 j) = z := ⟨_, rfl⟩
        rw [hzw] at z1' HTC HSC
        clear hzw
        clear HQ
        generalize qs f0 j = ej at *
        obtain ⟨c, hcv⟩ : ∃ z, sinF (fr1 fc) = z := ⟨_, rfl⟩
        obtain ⟨s, hsv⟩ : ∃ z, sinF (fr1 fs) = z := ⟨_, rfl⟩
        have HCV := Lib.hid hcv; have HSV := Lib.hid hsv
        obtain ⟨n1, n2, n3, n4, n5, n6⟩ := HPS.out
        rw [hcv] at n1 n3 n5
        rw [hsv] at n2 n4 n6
        rw [hcv, hsv]
        obtain ⟨nc1, nc2⟩ := opf n1
        obtain ⟨ns1, ns2⟩ := opf n2
        have HO1 := Lib.hid n3; have HO2 := Lib.hid n4; have HO3 := Lib.hid n5; have HO4 := Lib.hid n6
        clear hcv hsv HPS n1 n2 n3 n4 n5 n6
        go_wp2_with fail
        go_at_call 72
        refine (l01SineWide_any zw Ic fc HTC.out _ HSC.out.1 HSC.out.2.1 HSC.out.2.2).mono ?_
        rintro e w' ⟨rfl, rfl⟩
        go_wp2_with fail
        go_at_call 72
        refine (l01SineWide_any ej Is fs HTS.out _ HSS.out.1 HSS.out.2.1 HSS.out.2.2).mono ?_
        rintro e w' ⟨rfl, rfl⟩
        rw [HCV.out, HSV.out]
        by_cases e1 : j = 1
        · have HP1 : Hid (pcV j c s = F .sub 0 s) := Lib.hid (by unfold pcV; rw [if_pos e1])
          have HP2 : Hid (psV j c s = c) := Lib.hid (by unfold psV; rw [if_pos e1])
          rw [HP1.out, HP2.out]
          subst e1
          go_wp2_with fail
          go_at_call 69
          refine (l01Narrow_any _ (F .sub 0 s) _ (.refl _ _) HO4.out).mono ?_
          rintro e w' ⟨za, rfl, hza, n1, rfl⟩
          have HZA := Lib.hid hza; clear hza
          go_wp2_with fail
          go_at_call 69
          refine (l01Narrow_any _ (c) _ (.refl _ _) HO1.out).mono ?_
          rintro e w' ⟨zb, rfl, hzb, n2, rfl⟩
          have HZB := Lib.hid hzb; clear hzb
          go_wp2_with fail
          go_ret
          refine ⟨za, zb, rfl, ?_, ?_, ?_⟩
          · first | exact HZA.out | (rw [HCV.out, HSV.out, HP1.out]; exact HZA.out)
          · first | exact HZB.out | (rw [HCV.out, HSV.out, HP2.out]; exact HZB.out)
          · first | exact .refl _ | exact ⟨_, rfl⟩ | exact ((Dr.one _ _).drewN _)
        · by_cases e2 : j = 2
          · have HP1 : Hid (pcV j c s = F .sub 0 c) := Lib.hid (by unfold pcV; rw [if_neg e1, if_pos e2])
            have HP2 : Hid (psV j c s = F .sub 0 s) := Lib.hid (by unfold psV; rw [if_neg e1, if_pos e2])
            rw [HP1.out, HP2.out]
            subst e2
            go_wp2_with fail
            go_at_call 69
            refine (l01Narrow_any _ (F .sub 0 c) _ (.refl _ _) HO3.out).mono ?_
            rintro e w' ⟨za, rfl, hza, n1, rfl⟩
            have HZA := Lib.hid hza; clear hza
            go_wp2_with fail
            go_at_call 69
            refine (l01Narrow_any _ (F .sub 0 s) _ (.refl _ _) HO4.out).mono ?_
            rintro e w' ⟨zb, rfl, hzb, n2, rfl⟩
            have HZB := Lib.hid hzb; clear hzb
            go_wp2_with fail
            go_ret
            refine ⟨za, zb, rfl, ?_, ?_, ?_⟩
            · first | exact HZA.out | (rw [HCV.out, HSV.out, HP1.out]; exact HZA.out)
            · first | exact HZB.out | (rw [HCV.out, HSV.out, HP2.out]; exact HZB.out)
            · first | exact .refl _ | exact ⟨_, rfl⟩ | exact ((Dr.one _ _).drewN _)
          · by_cases e3 : j = 3
            · have HP1 : Hid (pcV j c s = s) := Lib.hid (by unfold pcV; rw [if_neg e1, if_neg e2, if_pos e3])
              have HP2 : Hid (psV j c s = F .sub 0 c) := Lib.hid (by unfold psV; rw [if_neg e1, if_neg e2, if_pos e3])
              rw [HP1.out, HP2.out]
              subst e3
              go_wp2_with fail
              go_at_call 69
              refine (l01Narrow_any _ (s) _ (.refl _ _) HO2.out).mono ?_
              rintro e w' ⟨za, rfl, hza, n1, rfl⟩
              have HZA := Lib.hid hza; clear hza
              go_wp2_with fail
              go_at_call 69
              refine (l01Narrow_any _ (F .sub 0 c) _ (.refl _ _) HO3.out).mono ?_
              rintro e w' ⟨zb, rfl, hzb, n2, rfl⟩
              have HZB := Lib.hid hzb; clear hzb
              go_wp2_with fail
              go_ret
              refine ⟨za, zb, rfl, ?_, ?_, ?_⟩
              · first | exact HZA.out | (rw [HCV.out, HSV.out, HP1.out]; exact HZA.out)
              · first | exact HZB.out | (rw [HCV.out, HSV.out, HP2.out]; exact HZB.out)
              · first | exact .refl _ | exact ⟨_, rfl⟩ | exact ((Dr.one _ _).drewN _)
            · have HP1 : Hid (pcV j c s = c) := Lib.hid (by unfold pcV; rw [if_neg e1, if_neg e2, if_neg e3])
              have HP2 : Hid (psV j c s = s) := Lib.hid (by unfold psV; rw [if_neg e1, if_neg e2, if_neg e3])
              rw [HP1.out, HP2.out]
              have k1 : ((j : Int) == 1) = false := by simp; omega
              have k2 : ((j : Int) == 2) = false := by simp; omega
              have k3 : ((j : Int) == 3) = false := by simp; omega
              go_wp2_with fail
              go_at_call 69
              refine (l01Narrow_any _ (c) _ (.refl _ _) HO1.out).mono ?_
              rintro e w' ⟨za, rfl, hza, n1, rfl⟩
              have HZA := Lib.hid hza; clear hza
              go_wp2_with fail
              go_at_call 69
              refine (l01Narrow_any _ (s) _ (.refl _ _) HO2.out).mono ?_
              rintro e w' ⟨zb, rfl, hzb, n2, rfl⟩
              have HZB := Lib.hid hzb; clear hzb
              go_wp2_with fail
              go_ret
              refine ⟨za, zb, rfl, ?_, ?_, ?_⟩
              · first | exact HZA.out | (rw [HCV.out, HSV.out, HP1.out]; exact HZA.out)
              · first | exact HZB.out | (rw [HCV.out, HSV.out, HP2.out]; exact HZB.out)
              · first | exact .refl _ | exact ⟨_, rfl⟩ | exact ((Dr.one _ _).drewN _)
  · have hl' : (FloatKind.f64.format.order f0 0 == some .lt) = true := hl
    have e1 : fr1 f0 = F .add f0 W1 := by unfold fr1; rw [hl]; rfl
    rw [e1] at HQ HZ HTC HTS HSC HSS
    clear hl e1
    generalize F .add f0 W1 = f1 at *
    go_enter Try.func62, Try.ntmps62
    go_wp2
    go_loop [3, 4] (fun fv q => ∃ j : Nat, j ≤ J ∧ fv = .float .f64 (qs f1 j) ∧ q = .int .i64 (j : Int)) (fun _ q => J - qOf q)
    case atStart => exact ⟨0, by omega, rfl, rfl⟩
    case round =>
      obtain ⟨j, hj, rfl, rfl⟩ := hrel
      have hJb := HQ.out.le
      by_cases hlt : j < J
      · obtain ⟨s1, s2, _⟩ := HQ.out.step j hlt
        have gq : (FloatKind.f64.format.order (qs f1 j) 4598175219545276416 == some .gt || FloatKind.f64.format.order (qs f1 j) 4598175219545276416 == some .eq) = true := s1
        obtain ⟨q1, q2⟩ := opf s2
        have q1' : ∀ w, fres .sub .f64 w (qs f1 j) 4598175219545276416 = qs f1 (j + 1) := q1
        have q2' : fcnt .sub .f64 (qs f1 j) 4598175219545276416 = 0 := q2
        clear q1 q2 s1 s2
        obtain ⟨qn, hqn⟩ : ∃ z, qs f1 (j + 1) = z := ⟨_, rfl⟩
        rw [hqn] at q1'
        have HQN := Lib.hid hqn
        clear hqn
        generalize qs f1 j = qj at *
        go_wp2
        go_round
        case rel => exact ⟨j + 1, by omega, by rw [HQN.out], by go_num⟩
        case measure => simp [qOf]; omega
      · obtain rfl : j = J := by omega
        have hst : (FloatKind.f64.format.order (qs f1 j) 4598175219545276416 == some .gt || FloatKind.f64.format.order (qs f1 j) 4598175219545276416 == some .eq) = false := HQ.out.stop
        obtain ⟨z1, z2⟩ := opf HZ.out
        have z1' : ∀ w, fres .sub .f64 w 4598175219545276416 (qs f1 j) = F .sub Wquarter (qs f1 j) := z1
        have z2' : fcnt .sub .f64 4598175219545276416 (qs f1 j) = 0 := z2
        clear z1 z2 HZ hlt hj
        obtain ⟨zw, hzw⟩ : ∃ z, F .sub Wquarter (qs f1 j) = z := ⟨_, rfl⟩
        rw [hzw] at z1' HTC HSC
        clear hzw
        clear HQ
        generalize qs f1 j = ej at *
        obtain ⟨c, hcv⟩ : ∃ z, sinF (fr1 fc) = z := ⟨_, rfl⟩
        obtain ⟨s, hsv⟩ : ∃ z, sinF (fr1 fs) = z := ⟨_, rfl⟩
        have HCV := Lib.hid hcv; have HSV := Lib.hid hsv
        obtain ⟨n1, n2, n3, n4, n5, n6⟩ := HPS.out
        rw [hcv] at n1 n3 n5
        rw [hsv] at n2 n4 n6
        rw [hcv, hsv]
        obtain ⟨nc1, nc2⟩ := opf n1
        obtain ⟨ns1, ns2⟩ := opf n2
        have HO1 := Lib.hid n3; have HO2 := Lib.hid n4; have HO3 := Lib.hid n5; have HO4 := Lib.hid n6
        clear hcv hsv HPS n1 n2 n3 n4 n5 n6
        go_wp2_with fail
        go_at_call 72
        refine (l01SineWide_any zw Ic fc HTC.out _ HSC.out.1 HSC.out.2.1 HSC.out.2.2).mono ?_
        rintro e w' ⟨rfl, rfl⟩
        go_wp2_with fail
        go_at_call 72
        refine (l01SineWide_any ej Is fs HTS.out _ HSS.out.1 HSS.out.2.1 HSS.out.2.2).mono ?_
        rintro e w' ⟨rfl, rfl⟩
        rw [HCV.out, HSV.out]
        by_cases e1 : j = 1
        · have HP1 : Hid (pcV j c s = F .sub 0 s) := Lib.hid (by unfold pcV; rw [if_pos e1])
          have HP2 : Hid (psV j c s = c) := Lib.hid (by unfold psV; rw [if_pos e1])
          rw [HP1.out, HP2.out]
          subst e1
          go_wp2_with fail
          go_at_call 69
          refine (l01Narrow_any _ (F .sub 0 s) _ (.refl _ _) HO4.out).mono ?_
          rintro e w' ⟨za, rfl, hza, n1, rfl⟩
          have HZA := Lib.hid hza; clear hza
          go_wp2_with fail
          go_at_call 69
          refine (l01Narrow_any _ (c) _ (.refl _ _) HO1.out).mono ?_
          rintro e w' ⟨zb, rfl, hzb, n2, rfl⟩
          have HZB := Lib.hid hzb; clear hzb
          go_wp2_with fail
          go_ret
          refine ⟨za, zb, rfl, ?_, ?_, ?_⟩
          · first | exact HZA.out | (rw [HCV.out, HSV.out, HP1.out]; exact HZA.out)
          · first | exact HZB.out | (rw [HCV.out, HSV.out, HP2.out]; exact HZB.out)
          · first | exact .refl _ | exact ⟨_, rfl⟩ | exact ((Dr.one _ _).drewN _)
        · by_cases e2 : j = 2
          · have HP1 : Hid (pcV j c s = F .sub 0 c) := Lib.hid (by unfold pcV; rw [if_neg e1, if_pos e2])
            have HP2 : Hid (psV j c s = F .sub 0 s) := Lib.hid (by unfold psV; rw [if_neg e1, if_pos e2])
            rw [HP1.out, HP2.out]
            subst e2
            go_wp2_with fail
            go_at_call 69
            refine (l01Narrow_any _ (F .sub 0 c) _ (.refl _ _) HO3.out).mono ?_
            rintro e w' ⟨za, rfl, hza, n1, rfl⟩
            have HZA := Lib.hid hza; clear hza
            go_wp2_with fail
            go_at_call 69
            refine (l01Narrow_any _ (F .sub 0 s) _ (.refl _ _) HO4.out).mono ?_
            rintro e w' ⟨zb, rfl, hzb, n2, rfl⟩
            have HZB := Lib.hid hzb; clear hzb
            go_wp2_with fail
            go_ret
            refine ⟨za, zb, rfl, ?_, ?_, ?_⟩
            · first | exact HZA.out | (rw [HCV.out, HSV.out, HP1.out]; exact HZA.out)
            · first | exact HZB.out | (rw [HCV.out, HSV.out, HP2.out]; exact HZB.out)
            · first | exact .refl _ | exact ⟨_, rfl⟩ | exact ((Dr.one _ _).drewN _)
          · by_cases e3 : j = 3
            · have HP1 : Hid (pcV j c s = s) := Lib.hid (by unfold pcV; rw [if_neg e1, if_neg e2, if_pos e3])
              have HP2 : Hid (psV j c s = F .sub 0 c) := Lib.hid (by unfold psV; rw [if_neg e1, if_neg e2, if_pos e3])
              rw [HP1.out, HP2.out]
              subst e3
              go_wp2_with fail
              go_at_call 69
              refine (l01Narrow_any _ (s) _ (.refl _ _) HO2.out).mono ?_
              rintro e w' ⟨za, rfl, hza, n1, rfl⟩
              have HZA := Lib.hid hza; clear hza
              go_wp2_with fail
              go_at_call 69
              refine (l01Narrow_any _ (F .sub 0 c) _ (.refl _ _) HO3.out).mono ?_
              rintro e w' ⟨zb, rfl, hzb, n2, rfl⟩
              have HZB := Lib.hid hzb; clear hzb
              go_wp2_with fail
              go_ret
              refine ⟨za, zb, rfl, ?_, ?_, ?_⟩
              · first | exact HZA.out | (rw [HCV.out, HSV.out, HP1.out]; exact HZA.out)
              · first | exact HZB.out | (rw [HCV.out, HSV.out, HP2.out]; exact HZB.out)
              · first | exact .refl _ | exact ⟨_, rfl⟩ | exact ((Dr.one _ _).drewN _)
            · have HP1 : Hid (pcV j c s = c) := Lib.hid (by unfold pcV; rw [if_neg e1, if_neg e2, if_neg e3])
              have HP2 : Hid (psV j c s = s) := Lib.hid (by unfold psV; rw [if_neg e1, if_neg e2, if_neg e3])
              rw [HP1.out, HP2.out]
              have k1 : ((j : Int) == 1) = false := by simp; omega
              have k2 : ((j : Int) == 2) = false := by simp; omega
              have k3 : ((j : Int) == 3) = false := by simp; omega
              go_wp2_with fail
              go_at_call 69
              refine (l01Narrow_any _ (c) _ (.refl _ _) HO1.out).mono ?_
              rintro e w' ⟨za, rfl, hza, n1, rfl⟩
              have HZA := Lib.hid hza; clear hza
              go_wp2_with fail
              go_at_call 69
              refine (l01Narrow_any _ (s) _ (.refl _ _) HO2.out).mono ?_
              rintro e w' ⟨zb, rfl, hzb, n2, rfl⟩
              have HZB := Lib.hid hzb; clear hzb
              go_wp2_with fail
              go_ret
              refine ⟨za, zb, rfl, ?_, ?_, ?_⟩
              · first | exact HZA.out | (rw [HCV.out, HSV.out, HP1.out]; exact HZA.out)
              · first | exact HZB.out | (rw [HCV.out, HSV.out, HP2.out]; exact HZB.out)
              · first | exact .refl _ | exact ⟨_, rfl⟩ | exact ((Dr.one _ _).drewN _)

set_option maxHeartbeats 8000000 in
set_option maxRecDepth 100000 in
theorem implPhasor_any {y f0 J fc fs : Nat} {I Ic Is : Int} (h : Pz y I f0 J Ic fc Is fs) (hyy : floatBits .sub .f64 y y = some 0) (hlt : y < 18446744073709551616)
    (hA : (FloatKind.f64.format.order (y % 9223372036854775808) 4841369599423283200 == some .gt || FloatKind.f64.format.order (y % 9223372036854775808) 4841369599423283200 == some .eq) = false) (w : World) :
    Calls Try.prog 34 #[.float .f64 y] w (C32 (fconv .f64 .f32 (pcV J (sinF (fr1 fc)) (sinF (fr1 fs)))) (fconv .f64 .f32 (psV J (sinF (fr1 fc)) (sinF (fr1 fs)))) w) := by
  have PS := ps_of h.tc h.ts
  have HYY := Lib.hid hyy; have HTN := Lib.hid h.tn
  have HQ := Lib.hid h.q; have HZ := Lib.hid h.z
  have HTC := Lib.hid h.tc; have HTS := Lib.hid h.ts
  have HSC := Lib.hid (small_tests h.zb)
  have HSS := Lib.hid (small_tests (h.q.bd.mono (by decide : (2 : Int) ≤ 3)))
  have HPS := Lib.hid PS
  clear h hyy PS
  obtain ⟨f1, hf1⟩ : ∃ z, fr1 f0 = z := ⟨_, rfl⟩
  have HF1 := Lib.hid hf1
  rw [hf1] at HQ HZ HTC HTS HSC HSS
  clear hf1
  go_enter Try.func34, Try.ntmps34
  go_wp2_with (first
    | (go_at_call 63; refine (fin64_yes HYY.out _).mono ?_; rintro e w' ⟨rfl, rfl⟩)
    | (go_at_call 52; refine (abs_any y _ hlt).mono ?_; rintro e w' ⟨rfl, rfl⟩)
    | (go_at_call 64; refine (fraction_any y I f0 HTN.out _).mono ?_; rintro e w' ⟨rfl, rfl⟩; rw [HF1.out]))
  go_loop [4, 5] (fun fv q => ∃ j : Nat, j ≤ J ∧ fv = .float .f64 (qs f1 j) ∧ q = .int .i64 (j : Int)) (fun _ q => J - qOf q)
  case atStart => exact ⟨0, by omega, rfl, rfl⟩
  case round =>
    obtain ⟨j, hj, rfl, rfl⟩ := hrel
    have hJb := HQ.out.le
    by_cases hlt : j < J
    · obtain ⟨s1, s2, _⟩ := HQ.out.step j hlt
      have gq : (FloatKind.f64.format.order (qs f1 j) 4598175219545276416 == some .gt || FloatKind.f64.format.order (qs f1 j) 4598175219545276416 == some .eq) = true := s1
      obtain ⟨q1, q2⟩ := opf s2
      have q1' : ∀ w, fres .sub .f64 w (qs f1 j) 4598175219545276416 = qs f1 (j + 1) := q1
      have q2' : fcnt .sub .f64 (qs f1 j) 4598175219545276416 = 0 := q2
      clear q1 q2 s1 s2
      obtain ⟨qn, hqn⟩ : ∃ z, qs f1 (j + 1) = z := ⟨_, rfl⟩
      rw [hqn] at q1'
      have HQN := Lib.hid hqn
      clear hqn
      generalize qs f1 j = qj at *
      go_wp2
      go_round
      case rel => exact ⟨j + 1, by omega, by rw [HQN.out], by go_num⟩
      case measure => simp [qOf]; omega
    · obtain rfl : j = J := by omega
      have hst : (FloatKind.f64.format.order (qs f1 j) 4598175219545276416 == some .gt || FloatKind.f64.format.order (qs f1 j) 4598175219545276416 == some .eq) = false := HQ.out.stop
      obtain ⟨z1, z2⟩ := opf HZ.out
      have z1' : ∀ w, fres .sub .f64 w 4598175219545276416 (qs f1 j) = F .sub Wquarter (qs f1 j) := z1
      have z2' : fcnt .sub .f64 4598175219545276416 (qs f1 j) = 0 := z2
      clear z1 z2 HZ hlt hj
      obtain ⟨zw, hzw⟩ : ∃ z, F .sub Wquarter (qs f1 j) = z := ⟨_, rfl⟩
      rw [hzw] at z1' HTC HSC
      clear hzw
      clear HQ
      generalize qs f1 j = ej at *
      obtain ⟨c, hcv⟩ : ∃ z, sinF (fr1 fc) = z := ⟨_, rfl⟩
      obtain ⟨s, hsv⟩ : ∃ z, sinF (fr1 fs) = z := ⟨_, rfl⟩
      have HCV := Lib.hid hcv; have HSV := Lib.hid hsv
      obtain ⟨n1, n2, n3, n4, n5, n6⟩ := HPS.out
      rw [hcv] at n1 n3 n5
      rw [hsv] at n2 n4 n6
      rw [hcv, hsv]
      obtain ⟨nc1, nc2⟩ := opf n1
      obtain ⟨ns1, ns2⟩ := opf n2
      have HO1 := Lib.hid n3; have HO2 := Lib.hid n4; have HO3 := Lib.hid n5; have HO4 := Lib.hid n6
      clear hcv hsv HPS n1 n2 n3 n4 n5 n6
      go_wp2_with fail
      go_at_call 53
      refine (sine_any zw Ic fc HTC.out _).mono ?_
      rintro e w' ⟨rfl, rfl⟩
      go_wp2_with fail
      go_at_call 53
      refine (sine_any ej Is fs HTS.out _).mono ?_
      rintro e w' ⟨rfl, rfl⟩
      rw [HCV.out, HSV.out]
      by_cases e1 : j = 1
      · have HP1 : Hid (pcV j c s = F .sub 0 s) := Lib.hid (by unfold pcV; rw [if_pos e1])
        have HP2 : Hid (psV j c s = c) := Lib.hid (by unfold psV; rw [if_pos e1])
        rw [HP1.out, HP2.out]
        subst e1
        have La : ∀ w, Like .f32 (cres .f64 .f32 w (F .sub 0 s)) (fconv .f64 .f32 (F .sub 0 s)) := fun w => like_narrow (.refl _ _) HO4.out
        have Lb : ∀ w, Like .f32 (cres .f64 .f32 w (c)) (fconv .f64 .f32 (c)) := fun w => like_narrow (.refl _ _) HO1.out
        have HLA := Lib.hid La; have HLB := Lib.hid Lb
        clear La Lb
        go_wp2
        go_ret
        refine ⟨_, _, rfl, ?_, ?_, ?_⟩
        · first | exact HLA.out _ | (rw [HCV.out, HSV.out, HP1.out]; exact HLA.out _)
        · first | exact HLB.out _ | (rw [HCV.out, HSV.out, HP2.out]; exact HLB.out _)
        · first | exact .refl _ | exact ⟨_, rfl⟩ | exact ((Dr.one _ _).drewN _)
      · by_cases e2 : j = 2
        · have HP1 : Hid (pcV j c s = F .sub 0 c) := Lib.hid (by unfold pcV; rw [if_neg e1, if_pos e2])
          have HP2 : Hid (psV j c s = F .sub 0 s) := Lib.hid (by unfold psV; rw [if_neg e1, if_pos e2])
          rw [HP1.out, HP2.out]
          subst e2
          have La : ∀ w, Like .f32 (cres .f64 .f32 w (F .sub 0 c)) (fconv .f64 .f32 (F .sub 0 c)) := fun w => like_narrow (.refl _ _) HO3.out
          have Lb : ∀ w, Like .f32 (cres .f64 .f32 w (F .sub 0 s)) (fconv .f64 .f32 (F .sub 0 s)) := fun w => like_narrow (.refl _ _) HO4.out
          have HLA := Lib.hid La; have HLB := Lib.hid Lb
          clear La Lb
          go_wp2
          go_ret
          refine ⟨_, _, rfl, ?_, ?_, ?_⟩
          · first | exact HLA.out _ | (rw [HCV.out, HSV.out, HP1.out]; exact HLA.out _)
          · first | exact HLB.out _ | (rw [HCV.out, HSV.out, HP2.out]; exact HLB.out _)
          · first | exact .refl _ | exact ⟨_, rfl⟩ | exact ((Dr.one _ _).drewN _)
        · by_cases e3 : j = 3
          · have HP1 : Hid (pcV j c s = s) := Lib.hid (by unfold pcV; rw [if_neg e1, if_neg e2, if_pos e3])
            have HP2 : Hid (psV j c s = F .sub 0 c) := Lib.hid (by unfold psV; rw [if_neg e1, if_neg e2, if_pos e3])
            rw [HP1.out, HP2.out]
            subst e3
            have La : ∀ w, Like .f32 (cres .f64 .f32 w (s)) (fconv .f64 .f32 (s)) := fun w => like_narrow (.refl _ _) HO2.out
            have Lb : ∀ w, Like .f32 (cres .f64 .f32 w (F .sub 0 c)) (fconv .f64 .f32 (F .sub 0 c)) := fun w => like_narrow (.refl _ _) HO3.out
            have HLA := Lib.hid La; have HLB := Lib.hid Lb
            clear La Lb
            go_wp2
            go_ret
            refine ⟨_, _, rfl, ?_, ?_, ?_⟩
            · first | exact HLA.out _ | (rw [HCV.out, HSV.out, HP1.out]; exact HLA.out _)
            · first | exact HLB.out _ | (rw [HCV.out, HSV.out, HP2.out]; exact HLB.out _)
            · first | exact .refl _ | exact ⟨_, rfl⟩ | exact ((Dr.one _ _).drewN _)
          · have HP1 : Hid (pcV j c s = c) := Lib.hid (by unfold pcV; rw [if_neg e1, if_neg e2, if_neg e3])
            have HP2 : Hid (psV j c s = s) := Lib.hid (by unfold psV; rw [if_neg e1, if_neg e2, if_neg e3])
            rw [HP1.out, HP2.out]
            have k1 : ((j : Int) == 1) = false := by simp; omega
            have k2 : ((j : Int) == 2) = false := by simp; omega
            have k3 : ((j : Int) == 3) = false := by simp; omega
            have La : ∀ w, Like .f32 (cres .f64 .f32 w (c)) (fconv .f64 .f32 (c)) := fun w => like_narrow (.refl _ _) HO1.out
            have Lb : ∀ w, Like .f32 (cres .f64 .f32 w (s)) (fconv .f64 .f32 (s)) := fun w => like_narrow (.refl _ _) HO2.out
            have HLA := Lib.hid La; have HLB := Lib.hid Lb
            clear La Lb
            go_wp2
            go_ret
            refine ⟨_, _, rfl, ?_, ?_, ?_⟩
            · first | exact HLA.out _ | (rw [HCV.out, HSV.out, HP1.out]; exact HLA.out _)
            · first | exact HLB.out _ | (rw [HCV.out, HSV.out, HP2.out]; exact HLB.out _)
            · first | exact .refl _ | exact ⟨_, rfl⟩ | exact ((Dr.one _ _).drewN _)

theorem isInf_big {y m : Nat} {g : Bool} {p : Int} (hr : Ieee.double.read y = .number g m p) : floatBits .sub .f64 y y = some 0 := sub_self hr

set_option maxHeartbeats 4000000 in
set_option maxRecDepth 100000 in
/-- The reference's and the program's phasor have one value. -/
theorem phasor_both (y : Nat) (hy : y < 18446744073709551616) : ∃ Vr Vi, (∀ w, Calls Try.prog 62 #[.float .f64 y] w (C32 Vr Vi w)) ∧ (∀ w, Calls Try.prog 34 #[.float .f64 y] w (C32 Vr Vi w)) := by
  by_cases hnum : ∃ g m p, Ieee.double.read y = .number g m p
  · obtain ⟨g, m, p, hr⟩ := hnum
    obtain ⟨t1, t2, t3⟩ := tests64 hr
    have hyy := sub_self hr
    cases hb : bigB m p with
    | true =>
      rw [hb] at t1 t2 t3
      refine ⟨1065353216, 0, fun w => ?_, fun w => ?_⟩
      · obtain ⟨y1, y2⟩ := opf hyy
        have o00 : (FloatKind.f64.format.order 0 0 != some .eq) = false := by decide +kernel
        clear t1 hyy hr
        cases g
        · have t2' : (FloatKind.f64.format.order y 4841369599423283200 == some .gt || FloatKind.f64.format.order y 4841369599423283200 == some .eq) = true := t2
          clear t2 t3
          go_enter Try.func62, Try.ntmps62
          go_wp2
          go_ret
          exact ⟨_, _, rfl, .refl _ _, .refl _ _, by first | exact .refl _ | exact ⟨_, rfl⟩⟩
        · have t2' : (FloatKind.f64.format.order y 4841369599423283200 == some .gt || FloatKind.f64.format.order y 4841369599423283200 == some .eq) = false := t2
          have t3' : (FloatKind.f64.format.order y 14064741636278059008 == some .lt || FloatKind.f64.format.order y 14064741636278059008 == some .eq) = true := t3
          clear t2 t3
          go_enter Try.func62, Try.ntmps62
          go_wp2
          go_ret
          exact ⟨_, _, rfl, .refl _ _, .refl _ _, by first | exact .refl _ | exact ⟨_, rfl⟩⟩
      · have HYY := Lib.hid hyy
        clear t2 t3 hyy hr
        go_enter Try.func34, Try.ntmps34
        go_wp2_with (first
          | (go_at_call 63; refine (fin64_yes HYY.out _).mono ?_; rintro e w' ⟨rfl, rfl⟩)
          | (go_at_call 52; refine (abs_any y _ hy).mono ?_; rintro e w' ⟨rfl, rfl⟩))
        go_ret
        exact ⟨_, _, rfl, .refl _ _, .refl _ _, by first | exact .refl _ | exact ⟨_, rfl⟩⟩
    | false =>
      rw [hb] at t1 t2 t3
      rw [Bool.and_false] at t2 t3
      obtain ⟨I, f0, hT⟩ := bd_of_small hr hb
      obtain ⟨J, Ic, fc, Is, fs, hP⟩ := pz_of hT
      exact ⟨_, _, fun w => l01Phasor_any hP hyy t2 t3 w, fun w => implPhasor_any hP hyy hy t1 w⟩
  · have hno : floatBits .sub .f64 y y = none := sub_nonum fun g m p h => hnum ⟨g, m, p, h⟩
    refine ⟨2143289344, 2143289344, fun w => ?_, fun w => ?_⟩
    · have hn : ∀ w, (FloatKind.f64.format.order (fres .sub .f64 w y y) 0 != some .eq) = true := fun w => by rw [order_nan_left (fres_none hno)]; rfl
      clear hno hnum
      go_enter Try.func62, Try.ntmps62
      go_wp2_with (go_at_call 79; refine (l01From_any _).mono ?_; rintro e w' ⟨rfl, rfl⟩)
      go_ret
      exact ⟨_, _, rfl, .refl _ _, .refl _ _, by first | exact .refl _ | exact ⟨_, rfl⟩⟩
    · have HNO := Lib.hid hno
      have hl : ∀ w, Like .f32 (cres .f64 .f32 w nanC) 2143289344 := fun w => .inr ⟨by rw [nan_of_like (like_narrow (.refl _ _) nanC_open)]; decide +kernel, by decide +kernel⟩
      have HL := Lib.hid hl
      clear hno hnum hl
      go_enter Try.func34, Try.ntmps34
      go_wp2_with (first
        | (go_at_call 63; refine (fin64_no HNO.out _).mono ?_; rintro e w' ⟨rfl, n1, rfl⟩)
        | (go_at_call 51; refine (nan_any _).mono ?_; rintro e w' ⟨rfl, rfl⟩))
      go_ret
      exact ⟨_, _, rfl, HL.out _, HL.out _, by first | exact .refl _ | exact ⟨_, rfl⟩ | exact ((Dr.one _ _).drewN _)⟩

theorem specPhasor_any {y Vr Vi : Nat} (h : ∀ w, Calls Try.prog 62 #[.float .f64 y] w (C32 Vr Vi w)) (w : World) : Calls Try.prog 33 #[.float .f64 y] w (C32 Vr Vi w) := by
  go_enter Try.func33, Try.ntmps33
  go_wp2_with (go_at_call 62; refine (h _).mono ?_; rintro e w' ⟨a, b, rfl, ha, hb, hd⟩)
  go_ret
  exact ⟨a, b, rfl, ha, hb, hd⟩

theorem sameComplex_like (a b c d : Nat) (w : World) (h : Like .f64 a c) (h2 : Like .f64 b d) : Calls Try.prog 35 #[.complex .f64 a b, .complex .f64 c d] w fun e w' => e = .returned (.bool true) ∧ Dr w w' := by
  have H1 := Lib.hid h; have H2 := Lib.hid h2
  clear h h2
  go_enter Try.func35, Try.ntmps35
  go_wp2_with fail
  go_at_call 17
  refine (sameFloat_like _ _ _ H1.out).mono ?_
  rintro e w' ⟨rfl, n1, rfl⟩
  go_wp2_with fail
  go_at_call 17
  refine (sameFloat_like _ _ _ H2.out).mono ?_
  rintro e w' ⟨rfl, n2, rfl⟩
  go_wp2_with fail
  go_ret
  first | exact ⟨rfl, (Dr.one _ _).drewN _⟩ | exact ⟨rfl, ⟨_, rfl⟩⟩ | exact ⟨rfl, .refl _⟩

set_option maxHeartbeats 4000000 in
theorem phasorOf_walk (y : Nat) (w : World) (hw : (Lit.float .f64 y).wf = true) : Calls Try.prog 11 #[.float .f64 y] w fun e w' => e = .returned (.bool true) ∧ Below w.heap.size w w' := by
  have hy : y < 18446744073709551616 := by simpa [Lit.wf] using hw
  obtain ⟨Vr, Vi, hs, hi⟩ := phasor_both y hy
  have HS := Lib.hid (specPhasor_any hs); have HI := Lib.hid hi
  clear hs hi hw
  go_enter Try.func11, Try.ntmps11
  go_wp2_with (first
    | (go_at_call 33; refine (HS.out _).mono ?_; rintro e w' ⟨a, b, rfl, ha, hb, n1, rfl⟩; have HA := Lib.hid ha; have HB := Lib.hid hb; clear ha hb)
    | (go_at_call 34; refine (HI.out _).mono ?_; rintro e w' ⟨c, d, rfl, hc, hd, n2, rfl⟩; have HC := Lib.hid hc; have HD := Lib.hid hd; clear hc hd)
    | (go_at_call 35; refine (sameComplex_like _ _ _ _ _ (like_conv2 (HC.out.trans HA.out.symm)) (like_conv2 (HD.out.trans HB.out.symm))).mono ?_; rintro e w' ⟨rfl, n3, rfl⟩))
  go_ret
  exact ⟨rfl, by first | exact below_drewN (Below.refl _ _) _ | exact below_drewN (below_drewN (Below.refl _ _) _) _ | (repeat first | exact Below.refl _ _ | apply below_drewN)⟩
end Go.Proofs.Ytbphigmpcjodkaa
