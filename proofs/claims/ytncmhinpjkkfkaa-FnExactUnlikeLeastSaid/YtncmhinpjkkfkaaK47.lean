/-
  Walks: the least way to give jobs to machines: the program's search calls itself. Conditions: none.
-/
import Derived.Test.YtncmhinpjkkfkaaK46
import Derived.StillTailTactics
set_option linter.unusedVariables false
set_option linter.unusedSimpArgs false
namespace Go.Proofs.Ytncmhinpjkkfkaa
open Go Go.RowKit

theorem Lw.St.row {S : Lw} {w : World} {i P j Q T k : Nat} (h : S.St w i P j Q T) (hk : k < S.nn) : (∃ v, w.cell? ⟨S.GW, k, none⟩ = some v) ∧ w.frozen? ⟨S.GW, k, none⟩ = false := by
  obtain ⟨wl, a, b, c⟩ := h.way
  exact ⟨⟨_, a.cell k (by omega)⟩, a.free k⟩
theorem Lw.St.end' {S : Lw} {w : World} {i P j Q T d : Nat} (h : S.St w i P j Q T) (hd : d < S.mm) : w.cell? ⟨S.GE, d, none⟩ = some (.int .i64 ((Ways.EN S.tm S.mm j Q).getD d 0)) ∧ w.frozen? ⟨S.GE, d, none⟩ = false :=
  ⟨Rw.cell h.ends d (by rw [Ways.EN_len]; exact hd), Rw.free h.ends d⟩

set_option maxHeartbeats 16000000 in
set_option maxRecDepth 100000 in
theorem put_any (S : Lw) (n1 : 1 ≤ S.nn) (n2 : S.nn ≤ 24) (m1 : 1 ≤ S.mm) (m2 : S.mm ≤ 8) (F : FuncId) (caps : Array Value) (hfv : S.fv = .func (.func F) #[] caps)
    (hF : ∀ w', Below S.U S.w0 w' → ∀ i d : Nat, i < S.nn → d < S.mm → Calls Try.prog F (#[.int .i64 (i : Int), .int .i64 (d : Int)] ++ caps) w' fun e w'' => e = .returned (.int .i64 (S.tm i d)) ∧ w'' = w')
    (hen : ∀ (args : Array Value) (w' : World), Sem.run Try.prog (callFunc F args) w' = .ok (.enter F args) w')
    (htm : ∀ i d : Nat, i < S.nn → d < S.mm → 1 ≤ S.tm i d ∧ S.tm i d ≤ 10000) :
    ∀ (r i P T : Nat) (w : World), i + r = S.nn → T = P * S.mm ^ r → S.St w i P i P T →
      Calls Try.prog 131 #[.int .i64 i, .pointer (some ⟨S.j, 0, none⟩), .pointer (some ⟨S.e, 0, none⟩), .pointer (some ⟨S.b, 0, none⟩), .pointer (some ⟨S.l, 0, none⟩), .pointer (some ⟨S.v, 0, none⟩), .pointer (some ⟨S.m, 0, none⟩), .pointer (some ⟨S.t, 0, none⟩), .pointer (some ⟨S.p, 0, none⟩)] w (Lw.PutP S i P (T + S.mm ^ r)) := by
  intro r
  induction r with
  | zero =>
    intro i P T w hi hT h
    have hin : i = S.nn := by omega
    subst hin
    rw [Nat.pow_zero, Nat.mul_one] at hT
    subst hT
    exact put_base S n1 n2 m1 m2 T w h
  | succ r ih =>
    intro i P T w hi hT h
    have hin : i < S.nn := by omega
    have hneq : ((i : Int) == (S.nn : Int)) = false := by simp; omega
    have hneq2 : ¬ i = S.nn := by omega
    have hfin : ∀ w', S.St w' i P i P ((P * S.mm + S.mm) * S.mm ^ r) → Lw.PutP S i P (T + S.mm ^ (r + 1)) (.returned (.tuple #[])) w' := fun w' h' => ⟨rfl, by rw [Ways.blk_last, ← hT] at h'; exact h'⟩
    have h0 : S.St w i P i P ((P * S.mm + 0) * S.mm ^ r) := by rw [← Ways.blk_first, ← hT]; exact h
    have hnext : ∀ d, (P * S.mm + d) * S.mm ^ r + S.mm ^ r = (P * S.mm + (d + 1)) * S.mm ^ r := fun d => Ways.blk_next _ _ _ _
    have hpush : ∀ d : Nat, d < S.mm → (Ways.EN S.tm S.mm i P).set d ((Ways.EN S.tm S.mm i P).getD d 0 + S.tm i (d : Int)) = Ways.EN S.tm S.mm (i + 1) (P * S.mm + d) := fun d hd => Ways.EN_push _ _ _ _ _ hd
    have hpop : ∀ d : Nat, d < S.mm → (Ways.EN S.tm S.mm (i + 1) (P * S.mm + d)).set d ((Ways.EN S.tm S.mm (i + 1) (P * S.mm + d)).getD d 0 - S.tm i (d : Int)) = Ways.EN S.tm S.mm i P := fun d hd => Ways.EN_pop _ _ _ _ _ hd
    have hbd : ∀ (j Q d : Nat), j ≤ S.nn → d < S.mm → 0 ≤ (Ways.EN S.tm S.mm j Q).getD d 0 ∧ (Ways.EN S.tm S.mm j Q).getD d 0 ≤ 240000 := fun j Q d hj hd => by
      have := Ways.EN_bd (tm := S.tm) (m := S.mm) (n := S.nn) (fun a b ha hb => by have := htm a b ha hb; omega) j Q d hj hd
      omega
    have hcast : (i : Int) + 1 = ((i + 1 : Nat) : Int) := by omega
    have cj := Lw.Row1.cell h.fix.j
    have cm := Lw.Row1.cell h.fix.m
    have H0 := Lib.hid h0; have HFIN := Lib.hid hfin; have HNX := Lib.hid hnext; have HPU := Lib.hid hpush; have HPO := Lib.hid hpop; have HBD := Lib.hid hbd; have HCS := Lib.hid hcast; have HTM := Lib.hid htm; have HF := Lib.hid hF; have HFV := Lib.hid hfv; have IH := Lib.hid ih
    have hi1 : i + 1 + r = S.nn := by omega
    have HI1 := Lib.hid hi1
    clear h h0 hfin hnext hpush hpop hbd hcast htm hF hfv ih hT hi hi1
    go_enter Try.func131, Try.ntmps131
    go_wp2_with fail
    clear cj cm
    go_loopw [11, 28] (fun _ x wr => ∃ d : Nat, d ≤ S.mm ∧ x = .int .i64 d ∧ S.St wr i P i P ((P * S.mm + d) * S.mm ^ r)) (fun _ x _ => S.mm - (intOf x).toNat)
    case atStart => exact ⟨0, by omega, rfl, H0.out⟩
    case round =>
      obtain ⟨d, hd, rfl, hst⟩ := hrel
      by_cases hlt : d < S.mm
      · have cv := Lw.Row1.cell hst.fix.v
        obtain ⟨⟨_, g1⟩, g2⟩ := hst.row hin
        have h1 := hst.wayS hin hlt
        obtain ⟨wa, hwa⟩ : ∃ wa, wr.setCell ⟨S.GW, i, none⟩ (.int .i64 (d : Int)) = wa := ⟨_, rfl⟩
        rw [hwa] at h1
        have ce := Lw.Row1.cell h1.fix.e
        have ct := Lw.Row1.cell h1.fix.t
        rw [HFV.out] at ct
        obtain ⟨e1, e2⟩ := h1.end' hlt
        obtain ⟨v0, v1⟩ := HBD.out i P d (by omega) hlt
        obtain ⟨t0, t1⟩ := HTM.out i d hin hlt
        have hcall := HF.out wa.drew (h1.dr (.one _ 1)).fix.bel i d hin hlt
        have h2 := h1.endsS (x := (Ways.EN S.tm S.mm i P).getD d 0 + S.tm i (d : Int)) (HPU.out d hlt)
        have HWA := Lib.hid hwa; have HCALL := Lib.hid hcall
        have cp := Lw.Row1.cell h2.fix.p
        unfold Lw.pv at cp
        obtain ⟨v, hv⟩ : ∃ v, (Ways.EN S.tm S.mm i P).getD d 0 = v := ⟨_, rfl⟩
        obtain ⟨tv, htv⟩ : ∃ v, S.tm i (d : Int) = v := ⟨_, rfl⟩
        rw [hv] at e1 v0 v1 h2 cp
        rw [htv] at t0 t1 h2 HCALL cp
        have H2 := Lib.hid h2
        have wv : IntKind.i64.wrap (v + tv) = v + tv := IntWalk.i64_in _ (by omega)
        have HTV := Lib.hid htv
        clear hst h1 h2 hwa hcall hv htv
        go_wp2_with fail
        rw [HWA.out]
        clear cv g1 g2
        go_still_tail 10, (by kernel_rfl)
        still_call HCALL.out
        repeat still_step
        refine wpStill_nil ?_
        change wpList _ _ _ _ _ wa.drew
        clear ce ct
        go_wp2_with (go_at_call 131; rw [HCS.out]; refine (IH.out (i + 1) (P * S.mm + d) _ _ HI1.out rfl (by first | exact H2.out.dr (.one _ 1) | exact (H2.out))).mono ?_; rintro e wc ⟨rfl, hsc⟩; have HSC := Lib.hid hsc; clear hsc)
        have hsc := HSC.out
        clear cp e1 e2 HCALL H2 HWA
        have ce := Lw.Row1.cell hsc.fix.e
        have ct := Lw.Row1.cell hsc.fix.t
        rw [HFV.out] at ct
        obtain ⟨e1, e2⟩ := hsc.end' hlt
        obtain ⟨u0, u1⟩ := HBD.out (i + 1) (P * S.mm + d) d (by omega) hlt
        have hcall := HF.out wc.drew (hsc.dr (.one _ 1)).fix.bel i d hin hlt
        rw [HTV.out] at hcall
        have HCALL := Lib.hid hcall
        have h3 := (hsc.endsS (x := (Ways.EN S.tm S.mm (i + 1) (P * S.mm + d)).getD d 0 - S.tm i (d : Int)) (HPO.out d hlt)).less hlt
        rw [HNX.out, HTV.out] at h3
        obtain ⟨v2, hv2⟩ : ∃ v, (Ways.EN S.tm S.mm (i + 1) (P * S.mm + d)).getD d 0 = v := ⟨_, rfl⟩
        rw [hv2] at e1 u0 u1 h3
        have H3 := Lib.hid h3
        have wv2 : IntKind.i64.wrap (v2 - tv) = v2 - tv := IntWalk.i64_in _ (by omega)
        clear hsc hcall h3 hv2
        go_still_tail 10, (by kernel_rfl)
        still_call HCALL.out
        repeat still_step
        refine wpStill_nil ?_
        change wpList _ _ _ _ _ wc.drew
        clear ce ct
        go_wp2_with fail
        go_roundw
        case rel => exact ⟨d + 1, by omega, by go_num, by first | exact H3.out.dr (.one _ 1) | exact H3.out⟩
        case measure => simp [intOf]; omega
      · obtain rfl : d = S.mm := by omega
        have hend := HFIN.out _ hst
        have HEND := Lib.hid hend
        clear hst hend
        go_wp2_with fail
        go_end0
        exact HEND.out
end Go.Proofs.Ytncmhinpjkkfkaa
