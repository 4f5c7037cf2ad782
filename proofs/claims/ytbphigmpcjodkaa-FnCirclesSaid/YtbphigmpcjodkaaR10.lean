/-
  Walks: the law TenthsOf. Conditions: none.
-/
import Derived.Test.YtbphigmpcjodkaaR9
set_option linter.unusedVariables false
set_option linter.unusedSimpArgs false
namespace Go.Proofs.Ytbphigmpcjodkaa
open Go Go.RowKit Flo Val Fb

attribute [local go_sem] run_store_float run_fadd run_fsub run_fmul run_fquo run_fconv World.drewN_zero run_f64from run_f64bits unary_negF

theorem cut_down_le {neg : Bool} {n drop K : Nat} (hK : 0 < K) (h : n ≤ K * 2 ^ drop) : Ieee.Toward.down.cut neg n drop ≤ K := by
  unfold Ieee.Toward.cut
  dsimp only
  rw [Nat.one_shiftLeft]
  by_cases hd : drop ≤ n.log2 + 2
  · rw [Nat.min_eq_left hd]
    have hp := pow_pos2 drop
    have hlow : n / 2 ^ drop ≤ K := Nat.div_le_of_le_mul (by rw [Nat.mul_comm]; exact h)
    have hb : (neg && n % 2 ^ drop != 0).toNat ≤ 1 := Bool.toNat_le _
    by_cases he : n / 2 ^ drop = K
    · have hm := Nat.div_add_mod n (2 ^ drop)
      rw [he] at hm
      have hr : n % 2 ^ drop = 0 := by rw [Nat.mul_comm] at hm; omega
      rw [hr, he]; simp
    · omega
  · rw [Nat.min_eq_right (by omega)]
    have hlt : n < 2 ^ (n.log2 + 1) := Nat.lt_log2_self
    have hg : 2 ^ (n.log2 + 1) ≤ 2 ^ (n.log2 + 2) := pow_le2 (by omega)
    rw [Nat.div_eq_of_lt (by omega)]
    have hb : (neg && n % 2 ^ (n.log2 + 2) != 0).toNat ≤ 1 := Bool.toNat_le _
    omega

def floorW (v : Nat) : Nat := Ieee.double.write ((Ieee.double.read v).integral .down)

theorem toInt_zero0 (s : Bool) {d : Nat} (hd : 0 < d) : (Ieee.Datum.number s 0 (-(d : Int))).toInt .zero = some (if s then -((0 : Nat) : Int) else ((0 : Nat) : Int)) := by
  have := toInt_zero (s := s) (m := 0) hd
  rwa [Nat.zero_div] at this

theorem floor_int {v : Nat} (h : Bd Ieee.double 16 v) : ∃ n, floatToIntVal .f64 (floorW v) .i64 = some n := by
  obtain ⟨s, m, p, hr, hle⟩ := h
  have hM : Ieee.Toward.down.cut s (m <<< p.toNat) (-p).toNat ≤ 65536 := by
    refine cut_down_le (by decide) ?_
    rw [Nat.shiftLeft_eq]
    have h2 := (le_iff (b := min p 0) (by omega) (by omega)).1 hle
    have e1 : (p - min p 0).toNat = p.toNat := by omega
    have e2 : (16 - min p 0).toNat = 16 + (-p).toNat := by omega
    rw [e1, e2, Nat.pow_add] at h2
    exact h2
  have hf : floorW v = Ieee.double.nearest s (Ieee.Toward.down.cut s (m <<< p.toNat) (-p).toNat) 0 := by
    unfold floorW; rw [hr]; rfl
  rw [hf]
  generalize Ieee.Toward.down.cut s (m <<< p.toNat) (-p).toNat = M at *
  have e1 : IntKind.i64.min = -9223372036854775808 := by decide
  have e2 : IntKind.i64.max = 9223372036854775807 := by decide
  unfold floatToIntVal
  have hd : FloatKind.f64.decode (Ieee.double.nearest s M 0) = Ieee.double.read (Ieee.double.nearest s M 0) := rfl
  rw [hd]
  by_cases h0 : M = 0
  · subst h0
    rw [nearest_zero, read_zero, Fb.dbl.1]
    rw [show (-1074 : Int) = -((1074 : Nat) : Int) from rfl, toInt_zero0 s (by decide)]
    dsimp only
    refine ⟨_, if_pos ?_⟩
    rw [e1, e2]; cases s <;> simp
  · rw [int_exact h0 (by omega)]
    have hl : M.log2 < 52 := by
      have h3 := Nat.log2_self_le h0
      have : 2 ^ M.log2 < 2 ^ 17 := by omega
      have := (Nat.pow_lt_pow_iff_right (by decide : 1 < 2)).1 this
      omega
    have hp : ((M.log2 : Int) - 52) = -((52 - M.log2 : Nat) : Int) := by omega
    rw [hp, toInt_zero (by omega)]
    dsimp only
    rw [Nat.mul_div_cancel _ (pow_pos2 _)]
    refine ⟨_, if_pos ?_⟩
    rw [e1, e2]; cases s <;> simp <;> omega

theorem run_floor {v m : Nat} {s : Bool} {p : Int} (h : Ieee.double.read v = .number s m p) (w : World) : (callFunc 76 #[.float .f64 v]).run Try.prog w = .ok (.value (.float .f64 (floorW v))) w := by
  have hk : (callFunc 76 #[.float .f64 v]).run Try.prog w = (((match FloatKind.f64.decode v with
    | .nan s t => if FloatKind.f64.format.quiet t = t then pure (Value.float .f64 v) else (do
      let kept ← choose (.extern "math.Floor,Ceil,Trunc,RoundToEven.signallingNaN kept" 2)
      pure (Value.float .f64 (if kept == 1 then v else FloatKind.f64.encode (.nan s (FloatKind.f64.format.quiet t)))))
    | d => pure (Value.float .f64 (FloatKind.f64.encode (d.integral .down)))) >>= fun v => pure (.value v)) : Sem Next).run Try.prog w := by kernel_rfl
  rw [hk]
  have hd : FloatKind.f64.decode v = .number s m p := h
  have hf : floorW v = FloatKind.f64.encode ((Ieee.Datum.number s m p).integral .down) := by unfold floorW; rw [h]; rfl
  rw [hd, hf]
  rfl

/-- The tenths: what is added up, and that it is a whole number in range. -/
def tm (y : Nat) : Nat := F .mul (logF y) 4631308968768463603
def tv (y : Nat) : Nat := F .add (tm y) Whalf
structure Tt (y : Nat) (n : Int) : Prop where
  m : floatBits .mul .f64 (logF y) 4631308968768463603 = some (tm y)
  a : floatBits .add .f64 (tm y) Whalf = some (tv y)
  f : ∀ w, (callFunc 76 #[.float .f64 (tv y)]).run Try.prog w = .ok (.value (.float .f64 (floorW (tv y)))) w
  c : ∀ w, (convert 28 2 (.float .f64 (floorW (tv y)))).run Try.prog w = .ok (.int .i64 n) w

theorem tt_of {y : Nat} (h : Wd32 y) : ∃ n, Tt y n := by
  obtain ⟨y2a, y2b⟩ := y2_bd h
  have hJ1 := j1_bd h
  have hJ2 := j2_bd h
  have hb := (logF_ok (e := Ex y) y2a y2b (by unfold Ex; omega)).bd
  have hb' : Bd Ieee.double 9 (logF y) := hb
  have hc : Bd Ieee.double 6 4631308968768463603 := bd_of (by decide +kernel)
  obtain ⟨m1, m2⟩ := F_mul (e := 15) hb' hc (by decide) (by decide) (by decide)
  obtain ⟨a1, a2⟩ := F_add (e := 16) m2 consts.2.1 (by decide) (by decide) (by decide) (by decide)
  obtain ⟨n, hn⟩ := floor_int a2
  obtain ⟨s, m, p, hr, _⟩ := a2
  exact ⟨n, m1, a1, fun w => run_floor hr w, fun w => run_convert_float_int w 28 2 .f64 .i64 _ n (by rw [Try.underlying28]; rfl) Try.underlying2 hn⟩

theorem sub_self32 {x m : Nat} {g : Bool} {p : Int} (h : Ieee.single.read x = .number g m p) : floatBits .sub .f32 x x = some 0 := by
  show Ieee.single.sub x x = some 0
  unfold Ieee.Format.sub
  rw [h]
  have hs : ∀ u, Ieee.signed g m u + Ieee.signed (!g) m u = 0 := by intro u; unfold Ieee.signed; cases g <;> simp <;> omega
  show Option.map Ieee.single.write (some (.number (if Ieee.signed g m (p - min p p).toNat + Ieee.signed (!g) m (p - min p p).toNat = 0 then g && !g else _) _ _)) = _
  rw [hs, if_pos rfl]
  have : (g && !g) = false := by cases g <;> rfl
  rw [this]
  show some (Ieee.single.nearest false 0 _) = _
  rw [nearest_zero]; rfl

/-- Both answers of the tenths. -/
def T2 (v : Int) (b : Bool) (w : World) (e : Ending) (w' : World) : Prop := e = .returned (.tuple #[.int .i64 v, .bool b]) ∧ Dr w w'

set_option maxHeartbeats 4000000 in
theorem tenths_both (x : Nat) : ∃ v b, (∀ w, Calls Try.prog 29 #[.float .f32 x] w (T2 v b w)) ∧ (∀ w, Calls Try.prog 30 #[.float .f32 x] w (T2 v b w)) := by
  by_cases hnum : ∃ g m p, Ieee.single.read x = .number g m p ∧ m < 16777216 ∧ -149 ≤ p ∧ p ≤ 104
  · obtain ⟨g, m, p, e, hm, hp, hp2⟩ := hnum
    have hs := sub_self32 e
    have hf1 : ∀ w, fres .sub .f32 w x x = 0 := by intro w; unfold fres; rw [hs]; rfl
    have hf2 : fcnt .sub .f32 x x = 0 := by unfold fcnt; rw [hs]; rfl
    have hf3 : (FloatKind.f32.format.order 0 0 == some .eq) = true := by decide +kernel
    have r0 : Ieee.single.read 0 = .number false 0 (-149) := by decide +kernel
    have ho : FloatKind.f32.format.order x 0 = some (compare (scal g m p) (scal false 0 (-149))) := by
      show (Ieee.single.read x).order (Ieee.single.read 0) = _
      rw [e, r0, order_number _ _ _ _ _ _ (by omega) (by decide)]
    rw [scal_zero] at ho
    have hle : (FloatKind.f32.format.order x 0 == some .lt || FloatKind.f32.format.order x 0 == some .eq) = decide (scal g m p ≤ 0) := by rw [ho, le_cmp]
    by_cases hneg : scal g m p ≤ 0
    · rw [decide_eq_true hneg] at hle
      clear e hm hp hp2 hs r0 ho hneg
      refine ⟨0, false, fun w => ?_, fun w => ?_⟩
      · go_enter Try.func29, Try.ntmps29
        go_wp2_with (go_at_call 58; go_in)
        go_ret2
        exact ⟨rfl, .refl _⟩
      · go_enter Try.func30, Try.ntmps30
        go_wp2_with (go_at_call 50; go_in)
        go_ret2
        exact ⟨rfl, .refl _⟩
    · rw [decide_eq_false hneg] at hle
      have hg : g = false := by
        cases g with
        | false => rfl
        | true =>
          exfalso
          have : 0 ≤ scal false m p := by unfold scal Ieee.signed; rw [if_neg (by decide)]; exact Int.natCast_nonneg _
          rw [scal_neg] at hneg; omega
      subst hg
      have hm0 : m ≠ 0 := by
        rintro rfl
        rw [scal_zero] at hneg; omega
      obtain ⟨m', p', hw⟩ := wid_of e hm hp hp2
      obtain ⟨hrd, hM⟩ := conv_read false m p hm0 hm hp hp2
      have hf : fconv .f32 .f64 x = Ieee.double.nearest false m p := by
        have hd : FloatKind.f32.decode x = .number false m p := e
        unfold fconv
        rw [if_neg (by decide), hd]; rfl
      rw [← hf] at hrd
      have hlog : m.log2 < 24 := (Nat.log2_lt hm0).2 (by omega)
      have hge : 4503599627370496 ≤ m * 2 ^ (52 - m.log2) := by
        have h1 : 2 ^ m.log2 ≤ m := Nat.log2_self_le hm0
        have : 2 ^ m.log2 * 2 ^ (52 - m.log2) ≤ m * 2 ^ (52 - m.log2) := Nat.mul_le_mul_right _ h1
        rw [← Nat.pow_add, show m.log2 + (52 - m.log2) = 52 by omega] at this
        exact this
      have hwd := wd_of hrd hw.lt hge (by omega) (by omega)
      have hc1 := hw.cres
      have hc2 := hw.ccnt
      clear hrd hM hf hlog hge hw e hm hp hp2 hs r0 ho hneg hm0
      generalize fconv .f32 .f64 x = y at *
      obtain ⟨n, ht⟩ := tt_of hwd
      obtain ⟨a1, a2⟩ := opf ht.m
      obtain ⟨b1, b2⟩ := opf ht.a
      have b1' : ∀ w, fres .add .f64 w (tm y) 4602678819172646912 = tv y := b1
      have b2' : fcnt .add .f64 (tm y) 4602678819172646912 = 0 := b2
      have hfl := ht.f
      have hcv := ht.c
      clear b1 b2 ht
      refine ⟨n, true, fun w => ?_, fun w => ?_⟩
      · have inner : ∀ w, Calls Try.prog 59 #[.float .f32 x] w fun e w' => e = .returned (.int .i64 n) ∧ Dr w w' := by
          intro w
          have hlw : ∀ w, Calls Try.prog 75 #[.float .f64 y] w fun e w' => e = .returned (.float .f64 (logF y)) ∧ w = w' := fun w => l01LogWide_any y hwd w
          have HL := Lib.hid hlw
          clear hlw hwd hle hf1 hf2 hf3
          generalize logF y = l at *
          generalize tm y = t1 at *
          generalize tv y = t2 at *
          generalize floorW t2 = t3 at *
          go_enter Try.func59, Try.ntmps59
          go_wp2_with (first
            | (go_at_call 75; refine (HL.out _).mono ?_; rintro e w' ⟨rfl, rfl⟩)
            | (go_at_call 60; go_in))
          go_ret
          exact ⟨rfl, .refl _⟩
        have HI := Lib.hid inner
        clear inner a1 a2 b1' b2' hfl hcv hwd hc1 hc2
        go_enter Try.func29, Try.ntmps29
        go_wp2_with (first
          | (go_at_call 58; go_in)
          | (go_at_call 59; refine (HI.out _).mono ?_; rintro e w' ⟨rfl, hd⟩))
        go_ret2
        exact ⟨rfl, hd⟩
      · have hlw : ∀ w, Calls Try.prog 57 #[.float .f64 y] w fun e w' => e = .returned (.float .f64 (logF y)) ∧ w = w' := fun w => naturalLog_any y hwd w
        have HL := Lib.hid hlw
        clear hlw hwd
        generalize logF y = l at *
        generalize tm y = t1 at *
        generalize tv y = t2 at *
        generalize floorW t2 = t3 at *
        go_enter Try.func30, Try.ntmps30
        go_wp2_with (first
          | (go_at_call 50; go_in)
          | (go_at_call 57; refine (HL.out _).mono ?_; rintro e w' ⟨rfl, rfl⟩)
          | (go_at_call 60; go_in))
        go_ret2
        exact ⟨rfl, .refl _⟩
  · have hno : ∀ g m p, Ieee.single.read x ≠ .number g m p := by
      intro g m p e
      rcases read32 x with ⟨g', t, e'⟩ | ⟨g', e'⟩ | ⟨g', m', p', e', h⟩
      · rw [e] at e'; cases e'
      · rw [e] at e'; cases e'
      · exact hnum ⟨g', m', p', e', h⟩
    have hn : ∀ w, (FloatKind.f32.format.order (fres .sub .f32 w x x) 0 == some .eq) = false := by
      intro w
      rw [order_nan_left32 (fres_none (sub_nonum (k := .f32) hno))]; rfl
    clear hno hnum
    refine ⟨0, false, fun w => ?_, fun w => ?_⟩
    · go_enter Try.func29, Try.ntmps29
      go_wp2_with (go_at_call 58; go_in)
      go_ret2
      exact ⟨rfl, ⟨_, rfl⟩⟩
    · go_enter Try.func30, Try.ntmps30
      go_wp2_with (go_at_call 50; go_in)
      go_ret2
      exact ⟨rfl, ⟨_, rfl⟩⟩

theorem tenthsOf_walk (x : Nat) (w : World) (_ : (Lit.float .f32 x).wf = true) : Calls Try.prog 9 #[.float .f32 x] w fun e w' => e = .returned (.bool true) ∧ Below w.heap.size w w' := by
  obtain ⟨v, b, hs, hi⟩ := tenths_both x
  have HS := Lib.hid hs; have HI := Lib.hid hi
  clear hs hi
  go_enter Try.func9, Try.ntmps9
  go_wp2_with (first
    | (go_at_call 29; refine (HS.out _).mono ?_; rintro e w' ⟨rfl, n1, rfl⟩)
    | (go_at_call 30; refine (HI.out _).mono ?_; rintro e w' ⟨rfl, n2, rfl⟩))
  go_ret
  exact ⟨rfl, by first | exact below_drewN (Below.refl _ _) _ | exact below_drewN (below_drewN (Below.refl _ _) _) _⟩
end Go.Proofs.Ytbphigmpcjodkaa
