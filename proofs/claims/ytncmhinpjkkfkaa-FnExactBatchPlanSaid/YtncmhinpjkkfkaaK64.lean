/-
  Walks: the least parting to batches: the reference's function. Conditions: none.
-/
import Derived.Test.YtncmhinpjkkfkaaK63
set_option linter.unusedVariables false
set_option linter.unusedSimpArgs false
namespace Go.Proofs.Ytncmhinpjkkfkaa
open Go Go.RowKit

set_option maxHeartbeats 4000000 in
set_option maxRecDepth 100000 in
theorem specBP_yes (w : World) (g n c : Nat) (js : List J) (hn : js.length = n) (hcap : n ≤ c) (hm : n ≤ 1048576) (hj : JRd w g 0 js) (hg : g < w.heap.size) (ch : Int) (c0 : -9223372036854775808 ≤ ch) (c1 : ch ≤ 9223372036854775807) (most : Int) (m0 : -9223372036854775808 ≤ most) (m1 : most ≤ 9223372036854775807) (hc : bpB js ch most = true) :
    Calls Try.prog 65 #[.slice (some ⟨g, 0, none⟩) n c, .int .i64 ch, .int .i64 most] w (BpP js ch most w) := by
  have hok := bpOk hc
  have hhc := hc
  unfold bpB aoB at hhc
  simp only [Bool.and_eq_true] at hhc
  obtain ⟨⟨hjb, hfr⟩, hin, him⟩ := hhc
  have hjok := (jobsB_ok hjb).2.2
  have hb2 := inB_lo hin
  have hb3 := inB_lo him
  obtain ⟨S, hS⟩ : ∃ S, bpS js ch most = S := ⟨_, rfl⟩
  obtain ⟨ms, hms⟩ : ∃ ms : Nat, most = (ms : Int) := ⟨most.toNat, by omega⟩
  have hSm : S.most = ms := by rw [← hS]; show most.toNat = ms; omega
  have hfin : ∀ w' G cap, Rw w' G cap (Batch.szs (Batch.Bp.best S n (n + 1))).reverse → w.heap.size ≤ G → Below w.heap.size w w' → ∀ l, l = (Batch.szs (Batch.Bp.best S n (n + 1))).reverse.length → BpP js ch most w (.returned (.tuple #[.slice (some ⟨G, 0, none⟩) l cap, .int .i64 (Batch.Bp.least S n (n + 1)), .bool true])) w' := by
    intro w' G cap h1 h2 h3 l hl
    subst hl
    unfold BpP bpL bpV
    rw [hS, hn]
    exact ⟨G, cap, rfl, h1, h2, h3⟩
  rw [hS, hn] at hok
  have hCell : ∀ w1, JRd w1 g 0 js → ∀ k, k < n → ∃ tv wv : Int, w1.cell? ⟨g, k * 4, none⟩ = some (.int .i64 tv) ∧ w1.cell? ⟨g, k * 4 + 3, none⟩ = some (.int .i64 wv) ∧ 1 ≤ tv ∧ tv ≤ 10000 ∧ 0 ≤ wv ∧ wv ≤ 10000 ∧ tmB js k + tv = tmB js (k + 1) ∧ wtB js k + wv = wtB js (k + 1) := by
    intro w1 h1 k hk
    have hk' : k < js.length := by omega
    obtain ⟨d0, d1, d2, d3⟩ := h1 k hk'
    rw [Nat.zero_add] at d0 d3
    have e := jN_eq hk'
    have ho := hjok k hk'
    obtain ⟨a1, a2, a3, a4, a5, a6, a7, a8⟩ := ho
    exact ⟨_, _, d0, d3, a1, a2, a7, a8, by simp only [tmB, e], by simp only [wtB, e]⟩
  have HCELL := Lib.hid hCell; have HFIN := Lib.hid hfin; have HOK := Lib.hid hok; have HSM := Lib.hid hSm
  have HJB := Lib.hid hjb; have HFR := Lib.hid hfr; have HIN := Lib.hid hin; have HIM := Lib.hid him; have HN := Lib.hid hn; have HJ := Lib.hid hj; have HMS := Lib.hid hms
  have n1 := hok.n1; have n2 := hok.n2; have s1 := hok.m1; have s2 := hok.m2
  rw [hSm] at s1 s2
  clear hok hCell hfin hjb hfr hin him hn hj hc hjok hb3 hSm hS m0 m1
  subst hms
  go_enter Try.func65, Try.ntmps65
  go_wp2_with fail
  go_at_call 77
  refine (l02Jobs_any _ n c js _ HN.out hm (.inr ⟨g, 0, rfl, HJ.out⟩)).mono ?_
  rintro e w' ⟨rfl, rfl⟩
  rw [HJB.out]
  go_wp2_with fail
  go_at_call 113
  refine (l02Free_any g n c js _ HN.out hm HJ.out).mono ?_
  rintro e w' ⟨rfl, rfl⟩
  rw [HFR.out]
  go_wp2_with fail
  go_at_call 69
  refine (l00In_any _ _ _ _).mono ?_
  rintro e w' ⟨rfl, rfl⟩
  rw [HIN.out]
  go_wp2_with fail
  go_at_call 69
  refine (l00In_any _ _ _ _).mono ?_
  rintro e w' ⟨rfl, rfl⟩
  rw [HIM.out]
  go_wp2_with fail
  obtain ⟨U, hU⟩ : ∃ U, w.heap.size = U := ⟨_, rfl⟩
  have HU := Lib.hid hU
  have P0 : Hid (Pre js U w 0 U 1 (U + 1) 1 ((w.alloc (.cells #[.int .i64 0] 2)).alloc (.cells #[.int .i64 0] 2))) := Lib.hid (by
    have h2 : Rw ((w.alloc (.cells #[.int .i64 0] 2)).alloc (.cells #[.int .i64 0] 2)) (w.heap.size + 1) 1 (preL (wtB js) 0) := by
      have := preL_zero (f := wtB js) (w := w.alloc (.cells #[.int .i64 0] 2)) rfl
      simpa using this
    rw [← hU]
    exact ⟨(preL_zero rfl).alloc _, h2, by omega, ((Below.refl _ _).alloc (Nat.le_refl _) _).alloc (by simp) _, Nat.le_refl _, by omega⟩)
  obtain ⟨wp, hwp⟩ : ∃ wp, ((w.alloc (.cells #[.int .i64 0] 2)).alloc (.cells #[.int .i64 0] 2)) = wp := ⟨_, rfl⟩
  have hU1 : (w.alloc (.cells #[.int .i64 0] 2)).heap.size = U + 1 := by simp; omega
  rw [hwp] at P0 ⊢
  rw [hU]
  rw [hU] at hg
  clear hwp hU hU1
  go_loopw [10, 11, 12] (fun t wv i w1 => ∃ k k1 GT cT GW cW : Nat, k ≤ n ∧ k1 = k + 1 ∧ i = .int .i64 k ∧ t = .slice (some ⟨GT, 0, none⟩) k1 cT ∧ wv = .slice (some ⟨GW, 0, none⟩) k1 cW ∧ Pre js U w k GT cT GW cW w1) (fun _ _ i _ => n - (intOf i).toNat)
  case atStart => exact ⟨0, 1, U, 1, U + 1, 1, by omega, rfl, rfl, rfl, rfl, P0.out⟩
  case round =>
    obtain ⟨k, k1, GT, cT, GW, cW, hk, hk1, rfl, rfl, rfl, hp⟩ := hrel
    have HK1 := Lib.hid hk1
    have HP := Lib.hid hp
    clear hp P0
    by_cases hlt : k < n
    · as_aux_lemma =>
        obtain ⟨tv, wv, e0, e3, t0, t1, v0, v1, ht, hw⟩ := HCELL.out _ (HJ.out.below HP.out.b hg) k hlt
        have ct := HP.out.tc (Nat.le_refl k)
        have cw := HP.out.wc (Nat.le_refl k)
        obtain ⟨tb0, tb1⟩ := HOK.out.tm k hk
        obtain ⟨wb0, wb1⟩ := HOK.out.wt k hk
        have HT := Lib.hid ht; have HW := Lib.hid hw
        have PT : Hid (Rw wr GT cT (preL (tmB js) k)) := Lib.hid HP.out.rt
        have PW : Hid (Rw wr GW cW (preL (wtB js) k)) := Lib.hid HP.out.rw
        obtain ⟨ta, hta⟩ : ∃ v, tmB js k = v := ⟨_, rfl⟩
        obtain ⟨wa, hwa⟩ : ∃ v, wtB js k = v := ⟨_, rfl⟩
        rw [hta] at ct tb0 tb1 HT; rw [hwa] at cw wb0 wb1 HW
        have HTA := Lib.hid hta; have HWA := Lib.hid hwa
        clear ht hw hta hwa
        have i0 : (0 : Int) ≤ (k : Int) := by omega
        have i1 : (k : Int) < (k1 : Int) := by omega
        have i2 : (k : Int) < (n : Int) := by omega
        have i3 : IntKind.i64.wrap (ta + tv) = ta + tv := IntWalk.i64_in _ (by omega)
        have i4 : IntKind.i64.wrap (wa + wv) = wa + wv := IntWalk.i64_in _ (by omega)
        have HKA : Hid (∀ W, Dr (wr.alloc (.cells #[.int .i64 (ta + tv)] 2)) W → W.cell? ⟨GT, k, none⟩ = some (.int .i64 ta) ∧ W.cell? ⟨g, k * 4, none⟩ = some (.int .i64 tv)) := Lib.hid (by
          rintro W ⟨q, rfl⟩
          exact ⟨(World.cell?_alloc_lt wr _ _ (by exact HP.out.rt.lt)).trans ct, (World.cell?_alloc_lt wr _ _ (by have := HP.out.sz; simp only; omega)).trans e0⟩)
        have HKB : Hid (∀ W : World, (∀ j (hj : j < ((preL (tmB js) k).map (Value.int .i64)).length), W.cell? ⟨GT, j, none⟩ = some ((preL (tmB js) k).map (Value.int .i64))[j]) → W.cell? ⟨GT, k, none⟩ = some (.int .i64 ta)) := Lib.hid (by
          intro W h
          rw [h k (by simp [preL_len])]
          simp [preL, HTA.out])
        have HKC : Hid (∀ W : World, Below U w W → W.cell? ⟨g, k * 4, none⟩ = some (.int .i64 tv)) := Lib.hid (by
          intro W h
          rw [h.cell (show g < U by omega), ← HP.out.b.cell (show g < U by omega)]; exact e0)
        clear hk1
        go_wp2_with fail
        go_region_held3 (fun w' => w'.cell? ⟨GT, k, none⟩ = some (.int .i64 ta) ∧ w'.cell? ⟨g, k * 4, none⟩ = some (.int .i64 tv)) (first | exact ⟨ct, e0⟩ | exact HKA.out _ (by first | exact Dr.refl _ | exact ⟨1, rfl⟩ | exact ⟨2, rfl⟩) | exact ⟨HKB.out _ HC3.out, HKC.out _ HB3.out⟩) (first
          | (refine step_push2 (w := wr) Try.underlying22 Try.info2 (by rfl) _ _ (by rfl) (.int .i64 (ta + tv)) (by first | exact Dr.refl _ | exact ⟨1, rfl⟩ | exact ⟨2, rfl⟩ | exact ⟨3, rfl⟩) GT cT ((preL (tmB js) k).map (Value.int .i64)) k1 (by rfl) (by rw [List.length_map, preL_len]; exact HK1.out.symm) PT.out (by rfl) rfl (by have := HK1.out; omega) (by decide) rfl U w HP.out.b HP.out.sz HP.out.ut ?_; intro GT2 cT2 w4 hr3 hb3 hG3 hk3 hc3; obtain ⟨hrp3, hne3⟩ := hk3 _ _ _ _ PW.out (Ne.symm HP.out.ne); have HR3 := Lib.hid hr3; have HB3 := Lib.hid hb3; have HRP3 := Lib.hid hrp3; have HNE3 := Lib.hid hne3; have HG3 := Lib.hid hG3; have HC3 := Lib.hid hc3; clear hr3 hb3 hrp3 hk3 hne3 hG3 hc3))
        have cw4 : w4.cell? ⟨GW, k, none⟩ = some (.int .i64 wa) := by
          have := Row.cell HRP3.out k (by simp [preL_len])
          rw [this]; simp [preL, HWA.out]
        have e34 : w4.cell? ⟨g, k * 4 + 3, none⟩ = some (.int .i64 wv) := by
          rw [HB3.out.cell (show g < U by omega), ← HP.out.b.cell (show g < U by omega)]; exact e3
        have HSZ4 : Hid (U ≤ w4.heap.size) := Lib.hid (by have := Row.lt HR3.out; have := HG3.out; omega)
        have HKB4 : Hid (∀ W : World, (∀ j (hj : j < ((preL (wtB js) k).map (Value.int .i64)).length), W.cell? ⟨GW, j, none⟩ = some ((preL (wtB js) k).map (Value.int .i64))[j]) → W.cell? ⟨GW, k, none⟩ = some (.int .i64 wa)) := Lib.hid (by
          intro W h
          rw [h k (by simp [preL_len])]
          simp [preL, HWA.out])
        have HKC4 : Hid (∀ W : World, Below U w W → W.cell? ⟨g, k * 4 + 3, none⟩ = some (.int .i64 wv)) := Lib.hid (by
          intro W h
          rw [h.cell (show g < U by omega), ← HP.out.b.cell (show g < U by omega)]; exact e3)
        have HKA4 : Hid (∀ W, Dr (w4.alloc (.cells #[.int .i64 (wa + wv)] 2)) W → W.cell? ⟨GW, k, none⟩ = some (.int .i64 wa) ∧ W.cell? ⟨g, k * 4 + 3, none⟩ = some (.int .i64 wv)) := Lib.hid (by
          rintro W ⟨q, rfl⟩
          exact ⟨(World.cell?_alloc_lt w4 _ _ (by exact Row.lt HRP3.out)).trans cw4, (World.cell?_alloc_lt w4 _ _ (by have := HSZ4.out; simp only; omega)).trans e34⟩)
        clear e0 e3 ct cw
        go_wp2_with fail
        go_region_held3 (fun w' => w'.cell? ⟨GW, k, none⟩ = some (.int .i64 wa) ∧ w'.cell? ⟨g, k * 4 + 3, none⟩ = some (.int .i64 wv)) (first | exact ⟨cw4, e34⟩ | exact HKA4.out _ (by first | exact Dr.refl _ | exact ⟨1, rfl⟩ | exact ⟨2, rfl⟩) | exact ⟨HKB4.out _ HC4.out, HKC4.out _ HB4.out⟩) (first
          | (refine step_push2 (w := w4) Try.underlying22 Try.info2 (by rfl) _ _ (by rfl) (.int .i64 (wa + wv)) (by first | exact Dr.refl _ | exact ⟨1, rfl⟩ | exact ⟨2, rfl⟩ | exact ⟨3, rfl⟩) GW cW ((preL (wtB js) k).map (Value.int .i64)) k1 (by rfl) (by rw [List.length_map, preL_len]; exact HK1.out.symm) HRP3.out (by rfl) rfl (by have := HK1.out; omega) (by decide) rfl U w HB3.out HSZ4.out HP.out.uw ?_; intro GW2 cW2 w5 hr3 hb3 hG3 hk3 hc3; obtain ⟨hrp3, hne3⟩ := hk3 _ _ _ _ HR3.out (Ne.symm HNE3.out); have HR4 := Lib.hid hr3; have HB4 := Lib.hid hb3; have HRP4 := Lib.hid hrp3; have HNE4 := Lib.hid hne3; have HG4 := Lib.hid hG3; have HC4 := Lib.hid hc3; clear hr3 hb3 hrp3 hk3 hne3 hG3 hc3))
        have HPN : Hid (Pre js U w (k + 1) GT2 cT2 GW2 cW2 w5) := Lib.hid (by
          refine ⟨?_, ?_, HNE4.out, HB4.out, HG3.out, HG4.out⟩
          · unfold Rw; rw [← preL_push, ← HT.out, List.map_append]; exact HRP4.out
          · unfold Rw; rw [← preL_push, ← HW.out, List.map_append]; exact HR4.out)
        go_wp2_with fail
        go_roundw
        case rel => exact ⟨k + 1, k1 + 1, GT2, cT2, GW2, cW2, by omega, by have := HK1.out; omega, by go_num, rfl, rfl, HPN.out⟩
        case measure => simp [intOf]; omega
    · obtain rfl : n = k := by omega
      clear hlt hk
      obtain ⟨NN, hNN⟩ : ∃ NN, k1 * k1 = NN := ⟨_, rfl⟩
      have hk25 : k1 ≤ 25 := by omega
      have hk2 : 2 ≤ k1 := by omega
      have hNb : NN ≤ 625 := by rw [← hNN]; exact Nat.mul_le_mul hk25 hk25
      have hNl : 4 ≤ NN := by rw [← hNN]; exact Nat.mul_le_mul hk2 hk2
      have hNNI : (k1 : Int) * (k1 : Int) = (NN : Int) := by rw [← hNN]; simp
      have hk1I : (k1 : Int) = (n : Int) + 1 := by omega
      have eNN : IntKind.i64.wrap (((n : Int) + 1) * ((n : Int) + 1)) = (NN : Int) := by rw [← hk1I, hNNI]; exact IntWalk.i64_in _ (by omega)
      have HK1I := Lib.hid hk1I
      clear hk1I
      have HNN := Lib.hid hNN
      have k1a : k1 ≤ n + 1 := by omega
      have k1b : n + 1 ≤ k1 := by omega
      clear hNN hNNI hk1
      go_wp2_with (at_make; go_loud (refine wp_make rfl (.tmp 89) 22 rfl 2 (.int .i64 0) 8 Try.underlying22 Try.info2 rfl NN .i64 _ rfl rfl (by omega) (by unfold maxLen; omega) ?_); intro w1 hrow hbel)
      have hGTl := HP.out.rt.lt
      have hGWl := HP.out.rw.lt
      obtain ⟨GC, hGC⟩ : ∃ G, wr.heap.size = G := ⟨_, rfl⟩
      have HP1 : Hid (Pre js U w n GT cT GW cW w1) := Lib.hid (HP.out.keep hbel)
      have HUC : Hid (U ≤ GC) := Lib.hid (by have := HP.out.sz; omega)
      rw [hGC] at hGTl hGWl hrow ⊢
      have HRC : Hid (Rw w1 GC NN (fillL NN 0)) := Lib.hid (by rw [fillL_zero]; exact rw_zero hrow)
      have HNT : Hid (GT ≠ GC) := Lib.hid (by omega)
      have HNW : Hid (GW ≠ GC) := Lib.hid (by omega)
      clear hbel hrow hGC HP hGTl hGWl
      go_loopw [14] (fun i w2 => ∃ q : Nat, q ≤ NN ∧ i = .int .i64 q ∧ Pre js U w n GT cT GW cW w2 ∧ Rw w2 GC NN (fillL NN q)) (fun i _ => NN - (intOf i).toNat)
      case atStart => exact ⟨0, by omega, rfl, HP1.out, HRC.out⟩
      case round =>
        obtain ⟨q, hq, rfl, hp, hr⟩ := hrel
        have HP := Lib.hid hp; have HR := Lib.hid hr
        clear hp hr HP1 HRC
        by_cases hlt : q < NN
        · have cq := HR.out.cell q (by rw [fillL_len]; exact hlt)
          have fq := HR.out.free q
          have hr2 := HR.out.set q (-1)
          rw [fillL_set] at hr2
          have HR2 := Lib.hid hr2
          have HP2 := Lib.hid (HP.out.set (q := q) (.int .i64 (-1)) HNT.out HNW.out HUC.out)
          generalize (fillL NN q).getD q 0 = x0 at cq
          clear hr2
          go_wp2_with fail
          go_roundw
          case rel => exact ⟨q + 1, by omega, by go_num, HP2.out, HR2.out⟩
          case measure => simp [intOf]; omega
        · obtain rfl : NN = q := by omega
          have cq := HR.out.cell 0 (by rw [fillL_len]; omega)
          have fq := HR.out.free 0
          have hr2 := HR.out.set 0 0
          have HR2 : Hid (Rw (wr.setCell ⟨GC, 0, none⟩ (.int .i64 0)) GC NN (Batch.Bp.tabL S k1 (1 * k1 + 1) (-1))) := Lib.hid (by
            rw [fillL_all, ← HNN.out, Batch.Bp.tabL_start (S := S) hk2, HNN.out] at hr2
            exact hr2)
          have HP2 := Lib.hid (HP.out.set (q := 0) (.int .i64 0) HNT.out HNW.out HUC.out)
          generalize (fillL NN NN).getD 0 0 = x0 at cq
          have nn0 : (0 : Int) < (NN : Int) := by omega
          clear hr2 hlt hq
          go_wp2_with fail
          obtain ⟨wz, hwz⟩ : ∃ W, wr.setCell ⟨GC, 0, none⟩ (.int .i64 0) = W := ⟨_, rfl⟩
          rw [hwz] at HR2 HP2 ⊢
          have HZ : Hid (Tb js U w n GT cT GW cW GC NN (Batch.Bp.tabL S k1 (1 * k1 + 1) (-1)) wz) := Lib.hid ⟨HP2.out, HR2.out, HNT.out, HNW.out, HUC.out⟩
          have HTL : Hid (∀ q v, (Batch.Bp.tabL S k1 q v).length = NN) := Lib.hid (fun q v => by rw [Batch.Bp.tabL_len, HNN.out])
          clear HR2 HP2 hwz cq fq HP HR
          go_loopw [15, 16, 17, 18, 19] (fun i _ _ _ _ w2 => ∃ k : Nat, 1 ≤ k ∧ k ≤ k1 ∧ i = .int .i64 k ∧ Tb js U w n GT cT GW cW GC NN (Batch.Bp.tabL S k1 (k * k1 + 1) (-1)) w2) (fun i _ _ _ _ _ => k1 - (intOf i).toNat)
          case atStart => exact ⟨1, by omega, by omega, rfl, HZ.out⟩
          case round =>
            obtain ⟨k, hk0, hkk, rfl, ht⟩ := hrel
            have HT := Lib.hid ht
            clear ht HZ
            by_cases hlt : k ≤ n
            · as_aux_lemma =>
                obtain ⟨mk, hmk⟩ : ∃ m, min k ms = m := ⟨_, rfl⟩
                have HMN : Hid (min (k : Int) (ms : Int) = (mk : Int)) := Lib.hid (by rw [min_nat, hmk])
                have hmk0 : mk ≤ k := by omega
                have hmk1 : mk ≤ ms := by omega
                have HMK := Lib.hid hmk
                clear hmk
                go_wp2_with fail
                go_loopw [16, 17, 18, 19] (fun i _ _ _ w2 => ∃ b : Nat, 1 ≤ b ∧ b ≤ k + 1 ∧ i = .int .i64 b ∧ Tb js U w n GT cT GW cW GC NN (Batch.Bp.tabL S k1 (k * k1 + b) (-1)) w2) (fun i _ _ _ _ => k + 1 - (intOf i).toNat)
                case atStart => exact ⟨1, by omega, by omega, rfl, HT.out⟩
                case round =>
                  obtain ⟨b, hb0, hbk, rfl, ht⟩ := hrel
                  have HTb := Lib.hid ht
                  clear ht HT
                  by_cases hlb : b ≤ k
                  · obtain ⟨b0, hbb⟩ : ∃ b0, b0 + 1 = b := ⟨b - 1, by omega⟩
                    have HF0 : Hid (Tb js U w n GT cT GW cW GC NN (Batch.Bp.tabL S k1 (k * k1 + b) (Batch.cst (S.fold (S.T b0) k b 0))) wr) := Lib.hid HTb.out
                    have HBB := Lib.hid hbb
                    clear hbb hb0 HTb
                    go_wp2_with fail
                    go_loopw [17, 18, 19] (fun i _ _ w2 => ∃ s z : Nat, s ≤ mk ∧ s + 1 = z ∧ i = .int .i64 z ∧ Tb js U w n GT cT GW cW GC NN (Batch.Bp.tabL S k1 (k * k1 + b) (Batch.cst (S.fold (S.T b0) k b s))) w2) (fun i _ _ _ => mk + 1 - (intOf i).toNat)
                    case atStart => exact ⟨0, 1, by omega, rfl, rfl, HF0.out⟩
                    case round =>
                      obtain ⟨s, z, hs, hz, rfl, ht⟩ := hrel
                      have HS := Lib.hid ht
                      have HZ := Lib.hid hz
                      clear ht HF0
                      by_cases hls : z ≤ mk
                      · obtain ⟨d, hd⟩ : ∃ d, k = d + z := ⟨k - z, by omega⟩
                        have hst := HOK.out.step (b := b0) (s := s) (d := d) (by have := HBB.out; omega) hlt (by omega)
                        rw [HBB.out, hz] at hst
                        have hfe : s + 1 = z := hz
                        have hwc := HOK.out.cost (b := b) hlt (by omega) hd
                        obtain ⟨u, v, x, pr, q1, q2, q3, q4, q5, u0, u1, v0, v1, x0, x1, p0, p1⟩ := hwc
                        have hq1 := Lib.hid q1
                        rw [q5] at hst
                        have ck := HS.out.p.wc hlt
                        have cd := HS.out.p.wc (i := d) (by omega)
                        have ct := HS.out.p.tc hlt
                        have hpl1 := place (d := d) (b := b0) HK1.out.symm HNN.out (by omega) (by have := HBB.out; omega)
                        have hpl2 := place (d := k) (b := b) HK1.out.symm HNN.out hlt (by omega)
                        have cb := HS.out.cell (HTL.out _ _) hpl1
                        have cc := HS.out.cell (HTL.out _ _) hpl2
                        have fc := HS.out.r.free (k * k1 + b)
                        rw [Batch.Bp.tabL_get (by have := HBB.out; omega) (place_lt (by have := HBB.out; omega) (by omega)) (by rw [HNN.out]; exact hpl1)] at cb
                        rw [Batch.Bp.tabL_at (by rw [HNN.out]; exact hpl2)] at cc
                        have tb := HOK.out.tb (b := b0) (k := d) (by have := HBB.out; omega) (by omega)
                        have fb := HOK.out.fb (b := b0) (k := k) s (by have := HBB.out; omega) hlt
                        rw [HBB.out] at fb
                        have HN1 : Hid (∀ w4 v, Tb js U w n GT cT GW cW GC NN (Batch.Bp.tabL S k1 (k * k1 + b) (Batch.cst (S.fold (S.T b0) k b s))) w4 → Tb js U w n GT cT GW cW GC NN (Batch.Bp.tabL S k1 (k * k1 + b) v) (w4.setCell ⟨GC, k * k1 + b, none⟩ (.int .i64 v))) := Lib.hid (fun w4 v h => (h.cset _ _).to (by rw [Batch.Bp.tabL_set _ (by rw [HNN.out]; exact hpl2)]))
                        have HD := Lib.hid hd
                        have hdk : (k : Int) - (z : Int) = (d : Int) := by omega
                        obtain ⟨yk, hyk⟩ : ∃ y, k * k1 = y := ⟨_, rfl⟩
                        obtain ⟨y2, hy2⟩ : ∃ y, yk + b = y := ⟨_, rfl⟩
                        obtain ⟨p, hp⟩ : ∃ y, d * k1 = y := ⟨_, rfl⟩
                        obtain ⟨y, hy⟩ : ∃ y, p + b0 = y := ⟨_, rfl⟩
                        have hpI : (d : Int) * (k1 : Int) = (p : Int) := by rw [← hp, Int.natCast_mul]
                        have hykI : (k : Int) * (k1 : Int) = (yk : Int) := by rw [← hyk, Int.natCast_mul]
                        have HY2 : Hid (k * k1 + b = y2) := Lib.hid (by rw [hyk, hy2])
                        rw [hyk, hy2] at cc fc HS HN1 hpl2
                        rw [hp, hy] at cb hpl1
                        obtain ⟨yb, hyb⟩ : ∃ y, p + b = y := ⟨_, rfl⟩
                        have l1 : (p : Int) + (b : Int) = (yb : Int) := by omega
                        have l2 : (yb : Int) - 1 = (y : Int) := by have := HBB.out; omega
                        have l3 : (yk : Int) + (b : Int) = (y2 : Int) := by omega
                        rw [HK1I.out] at hpI hykI
                        have a2 : IntKind.i64.wrap ((d : Int) * ((n : Int) + 1)) = (p : Int) := by rw [hpI]; exact IntWalk.i64_in _ (by omega)
                        have a5 : IntKind.i64.wrap ((k : Int) * ((n : Int) + 1)) = (yk : Int) := by rw [hykI]; exact IntWalk.i64_in _ (by omega)
                        have yb0 : yb ≤ 1000 := by have := HBB.out; omega
                        have yk0 : yk ≤ 1000 := by omega
                        have p00 : p ≤ 1000 := by omega
                        obtain ⟨wk, hwk⟩ : ∃ y, wtB js k = y := ⟨_, rfl⟩
                        obtain ⟨wd, hwd⟩ : ∃ y, wtB js d = y := ⟨_, rfl⟩
                        obtain ⟨tk, htk⟩ : ∃ y, tmB js k = y := ⟨_, rfl⟩
                        rw [hwk] at ck q1; rw [hwd] at cd q1; rw [htk] at ct q3
                        obtain ⟨bf, hbf⟩ : ∃ y, Batch.cst (S.T b0 d) = y := ⟨_, rfl⟩
                        obtain ⟨cur, hcur⟩ : ∃ y, Batch.cst (S.fold (S.T b0) k b s) = y := ⟨_, rfl⟩
                        rw [hbf] at cb tb hst; rw [hcur] at cc fb hst HS HN1
                        have b1 : IntKind.i64.wrap (wk - wd) = u := by rw [q1]; exact IntWalk.i64_in _ (by omega)
                        have b2 : IntKind.i64.wrap ((b : Int) * ch) = v := by rw [q2]; exact IntWalk.i64_in _ (by omega)
                        have b3 : IntKind.i64.wrap (v + tk) = x := by rw [q3]; exact IntWalk.i64_in _ (by omega)
                        have b4 : IntKind.i64.wrap (u * x) = pr := by rw [q4]; exact IntWalk.i64_in _ (by omega)
                        obtain ⟨cn, hcn⟩ : ∃ y, bf + pr = y := ⟨_, rfl⟩
                        have b5 : IntKind.i64.wrap (bf + pr) = cn := by rw [hcn]; exact IntWalk.i64_in _ (by omega)
                        rw [hcn] at hst
                        have HST := Lib.hid hst
                        have zk : (z : Int) ≤ (mk : Int) := by omega
                        clear hst hq1 q2 q4 q5 hwk hwd htk hbf hcur hp hpI hyk hykI hy hy2 hz hfe hd hyb
                        by_cases hneg : bf < 0
                        · have HCS := Lib.hid (HST.out.1 hneg)
                          clear HST
                          go_wp2_with (go_at_call 114; refine (l00Min_any _ _ _).mono ?_; rintro e w' ⟨rfl, rfl⟩; rw [HMN.out])
                          go_roundw
                          case rel => exact ⟨z, z + 1, by omega, rfl, by go_num, by rw [HY2.out, HCS.out]; exact HS.out⟩
                          case measure => simp [intOf]; omega
                        · have hst2 := HST.out.2 (by omega)
                          by_cases hcur0 : cur < 0
                          · rw [if_pos (.inl hcur0)] at hst2
                            have HST2 := Lib.hid hst2
                            clear hst2 HST
                            go_wp2_with (go_at_call 114; refine (l00Min_any _ _ _).mono ?_; rintro e w' ⟨rfl, rfl⟩; rw [HMN.out])
                            go_quiet (fail)
                            go_wp2_with fail
                            go_roundw
                            case rel => exact ⟨z, z + 1, by omega, rfl, by go_num, by rw [HY2.out, HST2.out]; exact HN1.out _ _ (HS.out.dr (.one _ _))⟩
                            case measure => simp [intOf]; omega
                          · by_cases hless : cn < cur
                            · rw [if_pos (.inr hless)] at hst2
                              have HST2 := Lib.hid hst2
                              clear hst2 HST
                              go_wp2_with (go_at_call 114; refine (l00Min_any _ _ _).mono ?_; rintro e w' ⟨rfl, rfl⟩; rw [HMN.out])
                              go_quiet (fail)
                              go_wp2_with fail
                              go_roundw
                              case rel => exact ⟨z, z + 1, by omega, rfl, by go_num, by rw [HY2.out, HST2.out]; exact HN1.out _ _ (HS.out.dr (.one _ _))⟩
                              case measure => simp [intOf]; omega
                            · rw [if_neg (by omega)] at hst2
                              have HST2 := Lib.hid hst2
                              clear hst2 HST
                              go_wp2_with (go_at_call 114; refine (l00Min_any _ _ _).mono ?_; rintro e w' ⟨rfl, rfl⟩; rw [HMN.out])
                              go_quiet (fail)
                              go_wp2_with fail
                              go_roundw
                              case rel => exact ⟨z, z + 1, by omega, rfl, by go_num, by rw [HY2.out, HST2.out]; exact HS.out.dr (.one _ _)⟩
                              case measure => simp [intOf]; omega
                      · have hsm : s = mk := by omega
                        subst hsm
                        have hTe : S.fold (S.T b0) k b s = S.T b k := by
                          have e1 := HBB.out
                          have e2 := HMK.out
                          rw [← e1]
                          show S.fold (S.T b0) k (b0 + 1) s = S.fold (S.T b0) k (b0 + 1) (min k S.most)
                          rw [HSM.out, e2]
                        have HNX : Hid (Tb js U w n GT cT GW cW GC NN (Batch.Bp.tabL S k1 (k * k1 + (b + 1)) (-1)) wr) := Lib.hid (HS.out.to (by rw [hTe, Batch.Bp.tabL_next (by omega)]))
                        clear hTe HS
                        go_wp2_with (go_at_call 114; refine (l00Min_any _ _ _).mono ?_; rintro e w' ⟨rfl, rfl⟩; rw [HMN.out])
                        go_roundw
                        case rel => exact ⟨b + 1, by omega, by omega, by go_num, HNX.out⟩
                        case measure => simp [intOf]; omega
                  · obtain rfl : b = k + 1 := by omega
                    have HNX : Hid (Tb js U w n GT cT GW cW GC NN (Batch.Bp.tabL S k1 ((k + 1) * k1 + 1) (-1)) wr) := Lib.hid (HTb.out.to (Batch.Bp.tabL_row (by omega)))
                    clear HTb
                    go_wp2_with fail
                    go_roundw
                    case rel => exact ⟨k + 1, by omega, by omega, by go_num, HNX.out⟩
                    case measure => simp [intOf]; omega
            · skip
              obtain rfl : k1 = k := by omega
              obtain ⟨FL, hFL⟩ : ∃ l, Batch.Bp.tabL S k1 (k1 * k1 + 1) (-1) = l := ⟨_, rfl⟩
              have hFLl : FL.length = NN := by rw [← hFL]; exact HTL.out _ _
              have HFG : Hid (∀ d b, d ≤ n → b ≤ n → FL.getD (d * k1 + b) 0 = Batch.cst (S.T b d)) := Lib.hid (fun d b h1 h2 => by
                have h3 := place (d := d) (b := b) HK1.out.symm HNN.out h1 h2
                rw [← hFL]
                exact Batch.Bp.tabL_get (by omega) (by rw [HNN.out]; omega) (by rw [HNN.out]; exact h3))
              have HPL : Hid (∀ d b, d ≤ n → b ≤ n → d * k1 + b < NN) := Lib.hid (fun d b h1 h2 => place HK1.out.symm HNN.out h1 h2)
              have HF : Hid (Tb js U w n GT cT GW cW GC NN FL wr) := Lib.hid (by rw [← hFL]; exact HT.out)
              have HFLL := Lib.hid hFLl
              obtain ⟨nk, hnk⟩ : ∃ y, n * k1 = y := ⟨_, rfl⟩
              have hnkI : (n : Int) * ((n : Int) + 1) = (nk : Int) := by rw [← hnk, Int.natCast_mul, HK1I.out]
              have HPN : Hid (∀ b, b ≤ n → nk + b < NN) := Lib.hid (fun b h => by rw [← hnk]; exact HPL.out n b (Nat.le_refl _) h)
              have hpn0 := HPN.out n (Nat.le_refl _)
              have HCN : Hid (∀ w4 : World, Tb js U w n GT cT GW cW GC NN FL w4 → ∀ b, b ≤ n → w4.cell? ⟨GC, nk + b, none⟩ = some (.int .i64 (Batch.cst (S.T b n)))) := Lib.hid (fun w4 h4 b hb => by
                rw [← hnk, h4.cell HFLL.out (HPL.out n b (Nat.le_refl _) hb), HFG.out n b (Nat.le_refl _) hb])
              have a5 : IntKind.i64.wrap ((n : Int) * ((n : Int) + 1)) = (nk : Int) := by rw [hnkI]; exact IntWalk.i64_in _ (by omega)
              have HA5 := Lib.hid a5
              clear hFL hFLl HT HTL hnk hnkI hkk hk0
              go_wp2_with fail
              go_loopw [20, 21, 22] (fun v i _ w2 => ∃ m : Nat, 1 ≤ m ∧ m ≤ k1 ∧ i = .int .i64 m ∧ v = .int .i64 (Batch.Bp.least S n m) ∧ Tb js U w n GT cT GW cW GC NN FL w2) (fun _ i _ _ => k1 - (intOf i).toNat)
              case atStart => exact ⟨1, by omega, by omega, rfl, rfl, HF.out⟩
              case round =>
                obtain ⟨m, hm0, hmk, rfl, rfl, ht⟩ := hrel
                have HF2 := Lib.hid ht
                clear ht HF
                by_cases hlm : m ≤ n
                · as_aux_lemma =>
                    have cm := HCN.out _ HF2.out m hlm
                    have hpm := HPN.out m hlm
                    have HST : Hid (Batch.Bp.least S n (m + 1) = if m ≠ 0 ∧ 0 ≤ Batch.cst (S.T m n) ∧ (Batch.Bp.least S n m < 0 ∨ Batch.cst (S.T m n) < Batch.Bp.least S n m) then Batch.cst (S.T m n) else Batch.Bp.least S n m) := Lib.hid rfl
                    obtain ⟨y, hy⟩ : ∃ y, nk + m = y := ⟨_, rfl⟩
                    have l3 : (nk : Int) + (m : Int) = (y : Int) := by omega
                    rw [hy] at cm hpm
                    clear hy
                    generalize Batch.cst (S.T m n) = x at *
                    generalize Batch.Bp.least S n m = lv at *
                    by_cases hx : 0 ≤ x
                    · by_cases hl : lv < 0
                      · have hst := HST.out
                        rw [if_pos ⟨by omega, hx, .inl hl⟩] at hst
                        have HST2 := Lib.hid hst
                        clear hst HST
                        go_wp2_with fail
                        go_roundw
                        case rel => exact ⟨m + 1, by omega, by omega, by go_num, by rw [HST2.out], HF2.out⟩
                        case measure => simp [intOf]; omega
                      · by_cases hl2 : x < lv
                        · have hst := HST.out
                          rw [if_pos ⟨by omega, hx, .inr hl2⟩] at hst
                          have HST2 := Lib.hid hst
                          clear hst HST
                          go_wp2_with fail
                          go_roundw
                          case rel => exact ⟨m + 1, by omega, by omega, by go_num, by rw [HST2.out], HF2.out⟩
                          case measure => simp [intOf]; omega
                        · have hst := HST.out
                          rw [if_neg (by omega)] at hst
                          have HST2 := Lib.hid hst
                          clear hst HST
                          go_wp2_with fail
                          go_roundw
                          case rel => exact ⟨m + 1, by omega, by omega, by go_num, by rw [HST2.out], HF2.out⟩
                          case measure => simp [intOf]; omega
                    · have hst := HST.out
                      rw [if_neg (by omega)] at hst
                      have HST2 := Lib.hid hst
                      clear hst HST
                      go_wp2_with fail
                      go_roundw
                      case rel => exact ⟨m + 1, by omega, by omega, by go_num, by rw [HST2.out], HF2.out⟩
                      case measure => simp [intOf]; omega
                · obtain rfl : k1 = m := by omega
                  obtain ⟨LV, hLV⟩ : ∃ v, Batch.Bp.least S n k1 = v := ⟨_, rfl⟩
                  have HLV : Hid (Batch.Bp.least S n (n + 1) = LV) := Lib.hid (by rw [← hLV]; congr 1; exact HK1.out.symm)
                  rw [hLV]
                  clear hLV hlm hmk
                  obtain ⟨GS0, hGS0⟩ : ∃ G, wr.heap.size = G := ⟨_, rfl⟩
                  have HR0 : Hid (Rw (wr.alloc (.cells #[] 2)) GS0 0 (zl (Batch.Bp.some' S n LV 1))) := Lib.hid (by rw [← hGS0]; exact rw_nil (row_fresh wr))
                  have HO0 : Hid (Own U GT GW GC GS0) := Lib.hid (HF2.out.own (by omega))
                  have HF3 : Hid (Tb js U w n GT cT GW cW GC NN FL (wr.alloc (.cells #[] 2))) := Lib.hid (HF2.out.keep (below_alloc (Below.refl _ _) _))
                  go_wp2_with fail
                  try rw [hGS0]
                  go_loopw [23, 24] (fun sv i w2 => ∃ m2 l G cap : Nat, 1 ≤ m2 ∧ m2 ≤ k1 ∧ i = .int .i64 m2 ∧ sv = .slice (some ⟨G, 0, none⟩) l cap ∧ (zl (Batch.Bp.some' S n LV m2)).length = l ∧ l ≤ 25 ∧ Rw w2 G cap (zl (Batch.Bp.some' S n LV m2)) ∧ Own U GT GW GC G ∧ Tb js U w n GT cT GW cW GC NN FL w2) (fun _ i _ => k1 - (intOf i).toNat)
                  case atStart => exact ⟨1, 0, GS0, 0, by omega, by omega, rfl, rfl, rfl, by omega, HR0.out, HO0.out, HF3.out⟩
                  case round =>
                    obtain ⟨m2, l, G, cap, hm0', hmk, rfl, rfl, hl, hl25, hr, ho, ht⟩ := hrel
                    have HL := Lib.hid hl; have HR := Lib.hid hr; have HO := Lib.hid ho; have HF4 := Lib.hid ht
                    clear hl hr ho ht HR0 HO0 HF3 HF2 hGS0
                    by_cases hlm : m2 ≤ n
                    · as_aux_lemma =>
                        have cm := HCN.out _ HF4.out m2 hlm
                        have hpm := HPN.out m2 hlm
                        have HST : Hid (Batch.Bp.some' S n LV (m2 + 1) = if m2 ≠ 0 ∧ Batch.cst (S.T m2 n) = LV then Batch.Bp.some' S n LV m2 ++ [m2] else Batch.Bp.some' S n LV m2) := Lib.hid rfl
                        have HLB : Hid ((zl (Batch.Bp.some' S n LV (m2 + 1))).length ≤ m2 + 1) := Lib.hid (by rw [zl_len]; exact Batch.Bp.some_len _)
                        obtain ⟨y, hy⟩ : ∃ y, nk + m2 = y := ⟨_, rfl⟩
                        have l3 : (nk : Int) + (m2 : Int) = (y : Int) := by omega
                        rw [hy] at cm hpm
                        clear hy
                        generalize Batch.cst (S.T m2 n) = x at *
                        by_cases hx : x = LV
                        · have hst := HST.out
                          rw [if_pos ⟨by omega, hx⟩] at hst
                          have HST2 : Hid (zl (Batch.Bp.some' S n LV (m2 + 1)) = zl (Batch.Bp.some' S n LV m2) ++ [(m2 : Int)]) := Lib.hid (by rw [hst, zl_append]; rfl)
                          have hlb := HLB.out
                          rw [HST2.out] at hlb
                          simp only [List.length_append, HL.out, List.length_cons, List.length_nil] at hlb
                          have hl1 : l + 1 ≤ 25 := by omega
                          have hxb : (x == LV) = true := by simp [hx]
                          clear hst HST hlb HLB hx
                          go_wp2_with (at_builtin; refine push_int _ rfl _ _ rfl G cap (zl (Batch.Bp.some' S n LV m2)) l (m2 : Int) (by rfl) HL.out HR.out (by rfl) (by omega) ?_; intro G' cap' w4 h1 htc hat; obtain ⟨k1', k2', k3'⟩ := HF4.out.push HO.out HR.out.lt htc hat; have HR4 := Lib.hid h1; have HF5 := Lib.hid k1'; have HO5 := Lib.hid k2'; clear h1 htc hat k1' k2' k3')
                          go_roundw
                          case rel => exact ⟨m2 + 1, l + 1, G', cap', by omega, by omega, by go_num, rfl, by rw [HST2.out, List.length_append, HL.out]; rfl, hl1, by rw [HST2.out]; exact HR4.out, HO5.out, HF5.out⟩
                          case measure => simp [intOf]; omega
                        · have hst := HST.out
                          rw [if_neg (fun h => hx h.2)] at hst
                          have HST2 := Lib.hid hst
                          have hxb : (x == LV) = false := by simp [hx]
                          clear hst HST HLB hx
                          go_wp2_with fail
                          go_roundw
                          case rel => exact ⟨m2 + 1, l, G, cap, by omega, by omega, by go_num, rfl, by rw [HST2.out]; exact HL.out, hl25, by rw [HST2.out]; exact HR.out, HO.out, HF4.out⟩
                          case measure => simp [intOf]; omega
                    · obtain rfl : k1 = m2 := by omega
                      obtain ⟨fin, hfin2⟩ : ∃ f, (Batch.szs (Batch.Bp.best S n (n + 1))).reverse = f := ⟨_, rfl⟩
                      have HCH0 : Hid (Batch.Bp.Ch S fin n (Batch.Bp.some' S n LV k1) []) := Lib.hid (by
                        have h := Batch.Bp.Ch.start (S := S) (n := n) HOK.out.hw (by rw [HSM.out]; exact s1) (by omega)
                        rw [HLV.out, hfin2, ← HK1.out] at h
                        exact h)
                      have HRET : Hid (∀ w' G cap l, Rw w' G cap fin → fin.length = l → U ≤ G → Below U w w' → BpP js ch ms w (.returned (.tuple #[.slice (some ⟨G, 0, none⟩) l cap, .int .i64 LV, .bool true])) w') := Lib.hid (by
                        intro w' G cap l h1 h2 h3 h4
                        have h := HFIN.out w' G cap (by rw [hfin2]; exact h1) (by rw [HU.out]; exact h3) (by rw [HU.out]; exact h4) l (by rw [hfin2]; exact h2.symm)
                        rw [HLV.out] at h
                        exact h)
                      obtain ⟨bs0, hbs0⟩ : ∃ b, Batch.Bp.some' S n LV k1 = b := ⟨_, rfl⟩
                      rw [hbs0] at HCH0 HL HR
                      have HL0 : Hid (bs0.length = l) := Lib.hid (by rw [← zl_len]; exact HL.out)
                      obtain ⟨GO0, hGO0⟩ : ∃ G, wr.heap.size = G := ⟨_, rfl⟩
                      have HRO0 : Hid (Rw (wr.alloc (.cells #[] 2)) GO0 0 []) := Lib.hid (by rw [← hGO0]; exact rw_nil (row_fresh wr))
                      have HOO0 : Hid (Own U GT GW GC GO0) := Lib.hid (HF4.out.own (by omega))
                      have HF0 : Hid (Tb js U w n GT cT GW cW GC NN FL (wr.alloc (.cells #[] 2))) := Lib.hid (HF4.out.keep (below_alloc (Below.refl _ _) _))
                      have HRS0 : Hid (Rw (wr.alloc (.cells #[] 2)) G cap (zl bs0)) := Lib.hid (HR.out.alloc _)
                      have HNE0 : Hid (G ≠ GO0) := Lib.hid (by have := HR.out.lt; omega)
                      clear hfin2 hbs0 HL HR HF4 HFIN HLV HCN HPN hlm hm0'
                      go_wp2_with fail
                      try rw [hGO0]
                      clear hGO0
                      go_loopw [23, 25, 26, 27, 28, 29, 30, 31] (fun sv ov kv _ _ _ _ _ w2 => ∃ (k : Nat) (bs : List Nat) (ol : List Int) (GS cS ls GO cO lo : Nat), k ≤ n ∧ kv = .int .i64 k ∧ sv = .slice (some ⟨GS, 0, none⟩) ls cS ∧ ov = .slice (some ⟨GO, 0, none⟩) lo cO ∧ bs.length = ls ∧ ls ≤ 25 ∧ ol.length = lo ∧ lo + k ≤ n ∧ Batch.Bp.Ch S fin k bs ol ∧ Rw w2 GS cS (zl bs) ∧ Rw w2 GO cO ol ∧ Own U GT GW GC GS ∧ Own U GT GW GC GO ∧ GS ≠ GO ∧ Tb js U w n GT cT GW cW GC NN FL w2) (fun _ _ kv _ _ _ _ _ _ => (intOf kv).toNat)
                      case atStart => exact ⟨n, bs0, [], G, cap, l, GO0, 0, 0, Nat.le_refl _, rfl, rfl, rfl, HL0.out, hl25, rfl, by omega, HCH0.out, HRS0.out, HRO0.out, HO.out, HOO0.out, HNE0.out, HF0.out⟩
                      case round =>
                        clear HL0 HCH0 HRS0 HRO0 HO HOO0 HNE0 HF0 hl25 hmk
                        obtain ⟨k, bs, ol, GS, cS, ls, GO, cO, lo, hkn, rfl, rfl, rfl, hls, hls25, hlo, hlok, hch, hrs, hro, hos, hoo, hne, ht⟩ := hrel
                        have HLS := Lib.hid hls; have HLO := Lib.hid hlo; have HCH := Lib.hid hch; have HRS := Lib.hid hrs; have HRO := Lib.hid hro; have HOS := Lib.hid hos; have HOO := Lib.hid hoo; have HNE := Lib.hid hne; have HF := Lib.hid ht
                        clear hls hlo hch hrs hro hos hoo hne ht
                        by_cases hk0 : 0 < k
                        case neg =>
                          obtain rfl : k = 0 := by omega
                          have HRF : Hid (Rw wr GO cO fin) := Lib.hid (by rw [← HCH.out.done]; exact HRO.out)
                          have HLF : Hid (fin.length = lo) := Lib.hid (by rw [← HCH.out.done]; exact HLO.out)
                          go_wp2_with fail
                          go_ret3
                          exact HRET.out _ _ _ _ HRF.out HLF.out HOO.out.u HF.out.p.b
                        obtain ⟨z0, a1, a2, a3, a4, a5⟩ := HCH.out.next HOK.out.hw (by omega)
                        have HA3 := Lib.hid a3; have HA4 := Lib.hid a4; have HA5 := Lib.hid a5
                        have HMEM : Hid (∀ b ∈ bs, b ≤ k ∧ b ≠ 0) := Lib.hid (fun b h => ⟨(HCH.out.mem h).1, (HCH.out.mem h).2 (by omega)⟩)
                        obtain ⟨GN0, hGN0⟩ : ∃ G, wr.heap.size = G := ⟨_, rfl⟩
                        have HRN0 : Hid (Rw (wr.alloc (.cells #[] 2)) GN0 0 (zl [])) := Lib.hid (by rw [← hGN0]; exact rw_nil (row_fresh wr))
                        have HON0 : Hid (Own U GT GW GC GN0) := Lib.hid (HF.out.own (by omega))
                        have HF0 : Hid (Tb js U w n GT cT GW cW GC NN FL (wr.alloc (.cells #[] 2))) := Lib.hid (HF.out.keep (below_alloc (Below.refl _ _) _))
                        have HRS0 : Hid (Rw (wr.alloc (.cells #[] 2)) GS cS (zl bs)) := Lib.hid (HRS.out.alloc _)
                        have HRO0 : Hid (Rw (wr.alloc (.cells #[] 2)) GO cO ol) := Lib.hid (HRO.out.alloc _)
                        have HNS0 : Hid (GN0 ≠ GS) := Lib.hid (by have := HRS.out.lt; omega)
                        have HNO0 : Hid (GN0 ≠ GO) := Lib.hid (by have := HRO.out.lt; omega)
                        clear a3 a4 a5 HRS HRO HF HCH
                        go_wp2_with fail
                        try rw [hGN0]
                        clear hGN0
                        go_loopw [27, 28, 29, 30, 31] (fun zv nv _ _ _ w2 => ∃ (s : Nat) (nl : List Nat) (GN cN ln : Nat), zv = .int .i64 s ∧ nv = .slice (some ⟨GN, 0, none⟩) ln cN ∧ nl.length = ln ∧ ln ≤ 25 ∧ ((s < z0 ∧ nl = []) ∨ (s = z0 ∧ nl = Batch.Bp.nxt S k z0 bs)) ∧ Rw w2 GN cN (zl nl) ∧ Own U GT GW GC GN ∧ GN ≠ GS ∧ GN ≠ GO ∧ Rw w2 GS cS (zl bs) ∧ Rw w2 GO cO ol ∧ Tb js U w n GT cT GW cW GC NN FL w2) (fun zv _ _ _ _ _ => z0 - (intOf zv).toNat)
                        case atStart => exact ⟨0, [], GN0, 0, 0, rfl, rfl, rfl, by omega, .inl ⟨by omega, rfl⟩, HRN0.out, HON0.out, HNS0.out, HNO0.out, HRS0.out, HRO0.out, HF0.out⟩
                        case round =>
                          clear HRN0 HON0 HNS0 HNO0 HRS0 HRO0 HF0
                          obtain ⟨s, nl, GN, cN, ln, rfl, rfl, hln, hln25, hor, hrn, hon, hns, hno, hrs, hro, ht⟩ := hrel
                          have HLN := Lib.hid hln; have HRN := Lib.hid hrn; have HON := Lib.hid hon; have HNS := Lib.hid hns; have HNO := Lib.hid hno; have HRS := Lib.hid hrs; have HRO := Lib.hid hro; have HF := Lib.hid ht
                          clear hln hrn hon hns hno hrs hro ht
                          rcases hor with ⟨hsz, hnl⟩ | ⟨hsz, hnl⟩
                          · subst hnl
                            obtain rfl : ln = 0 := by have := HLN.out; simpa using this.symm
                            obtain ⟨z, hz⟩ : ∃ z, s + 1 = z := ⟨_, rfl⟩
                            have hz0 : z ≤ z0 := by omega
                            have ez : IntKind.i64.wrap ((s : Int) + 1) = (z : Int) := by rw [IntWalk.i64_in _ (by omega)]; omega
                            have hl0 : ((0 : Nat) : Int) = 0 := rfl
                            have HRN2 : Hid (Rw wr GN cN (zl (Batch.Bp.nxt S k z (bs.take 0)))) := HRN
                            clear HRN HLN
                            go_wp2_with fail
                            go_loopw [28, 29, 30, 31] (fun nv iv _ _ w2 => ∃ (i GN cN ln : Nat), i ≤ ls ∧ iv = .int .i64 i ∧ nv = .slice (some ⟨GN, 0, none⟩) ln cN ∧ (zl (Batch.Bp.nxt S k z (bs.take i))).length = ln ∧ ln ≤ 25 ∧ Rw w2 GN cN (zl (Batch.Bp.nxt S k z (bs.take i))) ∧ Own U GT GW GC GN ∧ GN ≠ GS ∧ GN ≠ GO ∧ Rw w2 GS cS (zl bs) ∧ Rw w2 GO cO ol ∧ Tb js U w n GT cT GW cW GC NN FL w2) (fun _ iv _ _ _ => ls - (intOf iv).toNat)
                            case atStart => exact ⟨0, GN, cN, 0, by omega, rfl, rfl, rfl, by omega, HRN2.out, HON.out, HNS.out, HNO.out, HRS.out, HRO.out, HF.out⟩
                            case round =>
                              clear HRN2 HON HNS HNO HRS HRO HF hl0 hln25
                              obtain ⟨i, GN, cN, ln, hi, rfl, rfl, hln, hln25, hrn, hon, hns, hno, hrs, hro, ht⟩ := hrel
                              have HLN := Lib.hid hln; have HRN := Lib.hid hrn; have HON := Lib.hid hon; have HNS := Lib.hid hns; have HNO := Lib.hid hno; have HRS := Lib.hid hrs; have HRO := Lib.hid hro; have HF := Lib.hid ht
                              clear hln hrn hon hns hno hrs hro ht
                              by_cases hil : i < ls
                              · as_aux_lemma =>
                                  have hib : i < bs.length := by have := HLS.out; omega
                                  obtain ⟨b, hb⟩ : ∃ b, bs[i] = b := ⟨_, rfl⟩
                                  have hmem := HMEM.out b (by rw [← hb]; exact List.getElem_mem _)
                                  obtain ⟨b0, hbb⟩ : ∃ b0, b0 + 1 = b := ⟨b - 1, by omega⟩
                                  have hbk := hmem.1
                                  have cs := HRS.out.cell i (by rw [zl_len]; exact hib)
                                  rw [zl_get hib, hb] at cs
                                  obtain ⟨d, hd⟩ : ∃ d, k = d + z := ⟨k - z, by omega⟩
                                  have cb := HF.out.cell HFLL.out (HPL.out d b0 (by omega) (by omega))
                                  rw [HFG.out d b0 (by omega) (by omega)] at cb
                                  have cc := HF.out.cell HFLL.out (HPL.out k b hkn (by omega))
                                  rw [HFG.out k b hkn (by omega)] at cc
                                  have hpl1 := HPL.out d b0 (by omega) (by omega)
                                  have hpl2 := HPL.out k b hkn (by omega)
                                  obtain ⟨u, v, x, pr, q1, q2, q3, q4, q5, u0, u1, v0, v1, x0, x1, p0, p1⟩ := HOK.out.cost (b := b) hkn (by omega) hd
                                  have ck := HF.out.p.wc hkn
                                  have cd := HF.out.p.wc (i := d) (by omega)
                                  have ct := HF.out.p.tc hkn
                                  have tb := HOK.out.tb (b := b0) (k := d) (by omega) (by omega)
                                  have fb := HOK.out.tb (b := b) (k := k) (by omega) hkn
                                  have hhit : Batch.Bp.hit S k b z = (decide (z ≤ k) && decide (z ≤ ms) && decide (0 ≤ Batch.cst (S.T b0 d)) && decide (Batch.cst (S.T b0 d) + pr = Batch.cst (S.T b k))) := by
                                    unfold Batch.Bp.hit
                                    rw [HSM.out, q5, show b - 1 = b0 by omega, show k - z = d by omega]
                                  have hnt : zl (Batch.Bp.nxt S k z (bs.take (i + 1))) = zl (Batch.Bp.nxt S k z (bs.take i)) ++ if Batch.Bp.hit S k b z then [(b0 : Int)] else [] := by
                                    rw [Batch.Bp.nxt_take hib, zl_append, hb]
                                    congr 1
                                    split
                                    · rw [show b - 1 = b0 by omega]; rfl
                                    · rfl
                                  have hnlb : (zl (Batch.Bp.nxt S k z (bs.take (i + 1)))).length ≤ 25 := by
                                    rw [zl_len]
                                    have h1 := Batch.Bp.nxt_len (S := S) (k := k) (s := z) (bs.take (i + 1))
                                    have h2 : (bs.take (i + 1)).length ≤ bs.length := by rw [List.length_take]; omega
                                    have := HLS.out
                                    omega
                                  obtain ⟨yk, hyk⟩ : ∃ y, k * k1 = y := ⟨_, rfl⟩
                                  obtain ⟨y2, hy2⟩ : ∃ y, yk + b = y := ⟨_, rfl⟩
                                  obtain ⟨p, hp⟩ : ∃ y, d * k1 = y := ⟨_, rfl⟩
                                  obtain ⟨y, hy⟩ : ∃ y, p + b0 = y := ⟨_, rfl⟩
                                  have hpI : (d : Int) * (k1 : Int) = (p : Int) := by rw [← hp, Int.natCast_mul]
                                  have hykI : (k : Int) * (k1 : Int) = (yk : Int) := by rw [← hyk, Int.natCast_mul]
                                  have hdk : (k : Int) - (z : Int) = (d : Int) := by omega
                                  rw [hyk, hy2] at cc hpl2
                                  rw [hp, hy] at cb hpl1
                                  obtain ⟨yb, hyb⟩ : ∃ y, p + b = y := ⟨_, rfl⟩
                                  have l1 : (p : Int) + (b : Int) = (yb : Int) := by omega
                                  have l2 : (yb : Int) - 1 = (y : Int) := by omega
                                  have l3 : (yk : Int) + (b : Int) = (y2 : Int) := by omega
                                  have l4 : (b : Int) - 1 = (b0 : Int) := by omega
                                  rw [HK1I.out] at hpI hykI
                                  have a2' : IntKind.i64.wrap ((d : Int) * ((n : Int) + 1)) = (p : Int) := by rw [hpI]; exact IntWalk.i64_in _ (by omega)
                                  have a5' : IntKind.i64.wrap ((k : Int) * ((n : Int) + 1)) = (yk : Int) := by rw [hykI]; exact IntWalk.i64_in _ (by omega)
                                  have yb0 : yb ≤ 1000 := by omega
                                  have yk0 : yk ≤ 1000 := by omega
                                  have p00 : p ≤ 1000 := by omega
                                  obtain ⟨wk, hwk⟩ : ∃ y, wtB js k = y := ⟨_, rfl⟩
                                  obtain ⟨wd, hwd⟩ : ∃ y, wtB js d = y := ⟨_, rfl⟩
                                  obtain ⟨tk, htk⟩ : ∃ y, tmB js k = y := ⟨_, rfl⟩
                                  rw [hwk] at ck q1; rw [hwd] at cd q1; rw [htk] at ct q3
                                  obtain ⟨bf, hbf⟩ : ∃ y, Batch.cst (S.T b0 d) = y := ⟨_, rfl⟩
                                  obtain ⟨cur, hcur⟩ : ∃ y, Batch.cst (S.T b k) = y := ⟨_, rfl⟩
                                  rw [hbf] at cb tb hhit; rw [hcur] at cc fb hhit
                                  have b1 : IntKind.i64.wrap (wk - wd) = u := by rw [q1]; exact IntWalk.i64_in _ (by omega)
                                  have b2 : IntKind.i64.wrap ((b : Int) * ch) = v := by rw [q2]; exact IntWalk.i64_in _ (by omega)
                                  have b3 : IntKind.i64.wrap (v + tk) = x := by rw [q3]; exact IntWalk.i64_in _ (by omega)
                                  have b4 : IntKind.i64.wrap (u * x) = pr := by rw [q4]; exact IntWalk.i64_in _ (by omega)
                                  obtain ⟨cn, hcn⟩ : ∃ y, bf + pr = y := ⟨_, rfl⟩
                                  have b5 : IntKind.i64.wrap (bf + pr) = cn := by rw [hcn]; exact IntWalk.i64_in _ (by omega)
                                  rw [hcn] at hhit
                                  have zk : z ≤ k := by omega
                                  have HHIT := Lib.hid hhit; have HNT2 := Lib.hid hnt; have HNLB := Lib.hid hnlb
                                  have HPUSH : Hid (∀ w4, Rw w4 GN cN (zl (Batch.Bp.nxt S k z (bs.take i))) → Batch.Bp.hit S k b z = false → Rw w4 GN cN (zl (Batch.Bp.nxt S k z (bs.take (i + 1)))) ∧ (zl (Batch.Bp.nxt S k z (bs.take (i + 1)))).length = ln) := Lib.hid (fun w4 h1 h2 => by
                                    rw [hnt, h2]
                                    simp only [Bool.false_eq_true, if_false, List.append_nil]
                                    exact ⟨h1, HLN.out⟩)
                                  clear q2 q4 q5 hwk hwd htk hbf hcur hp hpI hyk hykI hy hy2 hhit hnt hnlb hmem hb hib hd hbb hyb
                                  by_cases hz1 : z ≤ ms
                                  · have hz1d : decide (z ≤ ms) = true := decide_eq_true hz1
                                    by_cases hz2 : 0 ≤ bf
                                    · have hz2d : decide (0 ≤ bf) = true := decide_eq_true hz2
                                      by_cases hz3 : cn = cur
                                      · as_aux_lemma =>
                                          have hz3d : (cn == cur) = true := by simp [hz3]
                                          have HT1 : Hid (Batch.Bp.hit S k b z = true) := Lib.hid (by rw [HHIT.out, decide_eq_true zk, decide_eq_true (by omega : z ≤ ms), hz2d, decide_eq_true hz3]; rfl)
                                          have HNT3 : Hid (zl (Batch.Bp.nxt S k z (bs.take (i + 1))) = zl (Batch.Bp.nxt S k z (bs.take i)) ++ [(b0 : Int)]) := Lib.hid (by rw [HNT2.out, HT1.out]; rfl)
                                          have hl1 : ln + 1 ≤ 25 := by
                                            have h := HNLB.out
                                            rw [HNT3.out] at h
                                            simp only [List.length_append, HLN.out, List.length_cons, List.length_nil] at h
                                            omega
                                          clear hz1 hz2 hz3 HPUSH
                                          go_wp2_with fail
                                          go_quiet (fail)
                                          have HRN4 : Hid (Rw (wr.drewN nq) GN cN (zl (Batch.Bp.nxt S k z (bs.take i)))) := Lib.hid (HRN.out.dr (.one _ _))
                                          have HF4 := Lib.hid (HF.out.dr (.one _ nq))
                                          have HRS4 := Lib.hid (HRS.out.dr (.one _ nq))
                                          have HRO4 := Lib.hid (HRO.out.dr (.one _ nq))
                                          generalize wr.drewN nq = wq at *
                                          go_wp2_with (at_builtin; refine push_int _ rfl _ _ rfl GN cN (zl (Batch.Bp.nxt S k z (bs.take i))) ln (b0 : Int) (by rfl) HLN.out HRN4.out (by rfl) (by omega) ?_; intro G' cap' w4 h1 htc hat; obtain ⟨k1', k2', k3'⟩ := HF4.out.push HON.out HRN4.out.lt htc hat; have HRN5 := Lib.hid h1; have HF5 := Lib.hid k1'; have HON5 := Lib.hid k2'; have HS5 := Lib.hid (k3' _ _ _ HRS4.out HNS.out.symm); have HO5 := Lib.hid (k3' _ _ _ HRO4.out HNO.out.symm); clear h1 htc hat k1' k2' k3')
                                          go_roundw
                                          case rel => exact ⟨i + 1, G', cap', ln + 1, by omega, by go_num, rfl, by rw [HNT3.out, List.length_append, HLN.out]; rfl, hl1, by rw [HNT3.out]; exact HRN5.out, HON5.out, HS5.out.2.symm, HO5.out.2.symm, HS5.out.1, HO5.out.1, HF5.out⟩
                                          case measure => simp [intOf]; omega
                                      · as_aux_lemma =>
                                          have hz3d : (cn == cur) = false := by simp [hz3]
                                          have HT1 : Hid (Batch.Bp.hit S k b z = false) := Lib.hid (by rw [HHIT.out, decide_eq_false hz3, Bool.and_false])
                                          clear hz1 hz2 hz3 HNT2 HNLB
                                          go_wp2_with fail
                                          go_quiet (fail)
                                          go_wp2_with fail
                                          go_roundw
                                          case rel => exact ⟨i + 1, GN, cN, ln, by omega, by go_num, rfl, (HPUSH.out _ HRN.out HT1.out).2, hln25, ((HPUSH.out _ HRN.out HT1.out).1).dr (.one _ _), HON.out, HNS.out, HNO.out, HRS.out.dr (.one _ _), HRO.out.dr (.one _ _), HF.out.dr (.one _ _)⟩
                                          case measure => simp [intOf]; omega
                                    · have hz2d : decide (0 ≤ bf) = false := decide_eq_false hz2
                                      have HT1 : Hid (Batch.Bp.hit S k b z = false) := Lib.hid (by rw [HHIT.out, hz2d, Bool.and_false, Bool.false_and])
                                      clear hz1 hz2 HNT2 HNLB
                                      go_wp2_with fail
                                      go_quiet (fail)
                                      go_wp2_with fail
                                      go_roundw
                                      case rel => exact ⟨i + 1, GN, cN, ln, by omega, by go_num, rfl, (HPUSH.out _ HRN.out HT1.out).2, hln25, ((HPUSH.out _ HRN.out HT1.out).1).dr (.one _ _), HON.out, HNS.out, HNO.out, HRS.out.dr (.one _ _), HRO.out.dr (.one _ _), HF.out.dr (.one _ _)⟩
                                      case measure => simp [intOf]; omega
                                  · have hz1d : decide (z ≤ ms) = false := decide_eq_false hz1
                                    have HT1 : Hid (Batch.Bp.hit S k b z = false) := Lib.hid (by rw [HHIT.out, decide_eq_false (by omega : ¬ z ≤ ms), Bool.and_false, Bool.false_and, Bool.false_and])
                                    clear hz1 HNT2 HNLB
                                    go_wp2_with fail
                                    go_quiet (fail)
                                    go_wp2_with fail
                                    go_roundw
                                    case rel => exact ⟨i + 1, GN, cN, ln, by omega, by go_num, rfl, (HPUSH.out _ HRN.out HT1.out).2, hln25, ((HPUSH.out _ HRN.out HT1.out).1).dr (.one _ _), HON.out, HNS.out, HNO.out, HRS.out.dr (.one _ _), HRO.out.dr (.one _ _), HF.out.dr (.one _ _)⟩
                                    case measure => simp [intOf]; omega
                              · obtain rfl : i = ls := by omega
                                have HTK : Hid (bs.take i = bs) := Lib.hid (by rw [← HLS.out]; exact List.take_length)
                                have HRN2 : Hid (Rw wr GN cN (zl (Batch.Bp.nxt S k z bs))) := Lib.hid (by rw [HTK.out] at HRN; exact HRN.out)
                                have HLN2 : Hid ((Batch.Bp.nxt S k z bs).length = ln) := Lib.hid (by rw [HTK.out] at HLN; rw [← zl_len]; exact HLN.out)
                                have HOR : Hid ((z < z0 ∧ Batch.Bp.nxt S k z bs = []) ∨ (z = z0 ∧ Batch.Bp.nxt S k z bs = Batch.Bp.nxt S k z0 bs)) := Lib.hid (by
                                  by_cases h : z < z0
                                  · exact .inl ⟨h, HA3.out z (by omega) h⟩
                                  · have : z = z0 := by omega
                                    subst this; exact .inr ⟨rfl, rfl⟩)
                                clear HRN HLN HTK
                                go_wp2_with fail
                                go_roundw
                                case rel => exact ⟨z, Batch.Bp.nxt S k z bs, GN, cN, ln, rfl, rfl, HLN2.out, hln25, HOR.out, HRN2.out, HON.out, HNS.out, HNO.out, HRS.out, HRO.out, HF.out⟩
                                case measure => simp [intOf]; omega
                          · subst hsz hnl
                            have hl0 : ((ln : Int) == 0) = false := by
                              have h1 := HA4.out
                              have h2 := HLN.out
                              have h3 : ln ≠ 0 := by rintro rfl; exact h1 (List.length_eq_zero_iff.1 h2)
                              simp; omega
                            have hks : IntKind.i64.wrap ((k : Int) - (s : Int)) = ((k - s : Nat) : Int) := by rw [IntWalk.i64_in _ (by omega)]; omega
                            go_wp2_with (at_builtin; refine push_all wr rfl _ _ rfl (s : Int) ol lo (by rfl) (.slice (some ⟨GO, 0, none⟩) lo cO) (by rfl) HLO.out (by omega) (.inr ⟨GO, cO, rfl, HRO.out⟩) ?_; intro G4 cap4 w4 h1 h2 h3; have HRO4 := Lib.hid h1; have HOO4 : Hid (Own U GT GW GC G4) := Lib.hid (HF.out.own h2); have HF4 := Lib.hid (HF.out.keep h3); have HRN4 := Lib.hid (HRN.out.below h3 HRN.out.lt); have HNE4 : Hid (GN ≠ G4) := Lib.hid (by have := HRN.out.lt; omega); clear h1 h2 h3)
                            go_roundw
                            case rel => exact ⟨k - s, Batch.Bp.nxt S k s bs, (s : Int) :: ol, GN, cN, ln, G4, cap4, lo + 1, by omega, rfl, rfl, rfl, HLN.out, hln25, by simp [HLO.out], by omega, HA5.out, HRN4.out, HRO4.out, HON.out, HOO4.out, HNE4.out, HF4.out⟩
                            case measure => simp [intOf]; omega

end Go.Proofs.Ytncmhinpjkkfkaa
