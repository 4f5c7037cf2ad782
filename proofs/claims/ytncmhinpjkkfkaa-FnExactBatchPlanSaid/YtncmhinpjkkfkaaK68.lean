/-
  Walks: the law BatchPlan. Conditions: none.
-/
import Derived.Test.YtncmhinpjkkfkaaK64
import Derived.Test.YtncmhinpjkkfkaaK67
set_option linter.unusedVariables false
set_option linter.unusedSimpArgs false
namespace Go.Proofs.Ytncmhinpjkkfkaa
open Go Go.RowKit

set_option maxHeartbeats 2000000 in
set_option maxRecDepth 100000 in
theorem specBP_no (w : World) (g n c : Nat) (js : List J) (hn : js.length = n) (hcap : n ≤ c) (hm : n ≤ 1048576) (hj : JRd w g 0 js) (hg : g < w.heap.size) (ch : Int) (c0 : -9223372036854775808 ≤ ch) (c1 : ch ≤ 9223372036854775807) (most : Int) (m0 : -9223372036854775808 ≤ most) (m1 : most ≤ 9223372036854775807) (hc : bpB js ch most = false) :
    Calls Try.prog 65 #[.slice (some ⟨g, 0, none⟩) n c, .int .i64 ch, .int .i64 most] w fun e w' => e = .returned (.tuple #[.slice none 0 0, .int .i64 0, .bool false]) ∧ Below w.heap.size w w' := by
  have HN := Lib.hid hn; have HJ := Lib.hid hj
  cases hjb : jobsB js with
  | false =>
    have HJB := Lib.hid hjb; clear hjb hc
    clear hn hj
    go_enter Try.func65, Try.ntmps65
    go_wp2_with fail
    go_at_call 77
    refine (l02Jobs_any _ n c js _ HN.out hm (.inr ⟨g, 0, rfl, HJ.out⟩)).mono ?_
    rintro e w' ⟨rfl, rfl⟩
    rw [HJB.out]
    go_wp2_with fail
    go_ret3
    exact ⟨rfl, .refl _ _⟩
  | true =>
    cases hfr : freeB js with
    | false =>
      have HJB := Lib.hid hjb; have HFR := Lib.hid hfr; clear hjb hfr hc
      clear hn hj
      go_enter Try.func65, Try.ntmps65
      go_wp2_with fail
      go_at_call 77
      refine (l02Jobs_any _ n c js _ HN.out hm (.inr ⟨g, 0, rfl, HJ.out⟩)).mono ?_
      rintro e w' ⟨rfl, rfl⟩
      rw [HJB.out]
      go_wp2_with fail
      go_at_call 113
      refine (l02Free_any g n c js _ HN.out hm HJ.out).mono ?_
      rintro e w' ⟨rfl, rfl⟩
      rw [HFR.out]
      go_wp2_with fail
      go_ret3
      exact ⟨rfl, .refl _ _⟩
    | true =>
      cases hin : inB ch 0 10000 with
      | false =>
        have HJB := Lib.hid hjb; have HFR := Lib.hid hfr; have HIN := Lib.hid hin; clear hjb hfr hin hc
        clear hn hj
        go_enter Try.func65, Try.ntmps65
        go_wp2_with fail
        go_at_call 77
        refine (l02Jobs_any _ n c js _ HN.out hm (.inr ⟨g, 0, rfl, HJ.out⟩)).mono ?_
        rintro e w' ⟨rfl, rfl⟩
        rw [HJB.out]
        go_wp2_with fail
        go_at_call 113
        refine (l02Free_any g n c js _ HN.out hm HJ.out).mono ?_
        rintro e w' ⟨rfl, rfl⟩
        rw [HFR.out]
        go_wp2_with fail
        go_at_call 69
        refine (l00In_any _ _ _ _).mono ?_
        rintro e w' ⟨rfl, rfl⟩
        rw [HIN.out]
        go_wp2_with fail
        go_ret3
        exact ⟨rfl, .refl _ _⟩
      | true =>
        have him : inB most 1 24 = false := by unfold bpB aoB at hc; rw [hjb, hfr, hin] at hc; simpa using hc
        have HJB := Lib.hid hjb; have HFR := Lib.hid hfr; have HIN := Lib.hid hin; have HIM := Lib.hid him; clear hjb hfr hin him hc
        clear hn hj
        go_enter Try.func65, Try.ntmps65
        go_wp2_with fail
        go_at_call 77
        refine (l02Jobs_any _ n c js _ HN.out hm (.inr ⟨g, 0, rfl, HJ.out⟩)).mono ?_
        rintro e w' ⟨rfl, rfl⟩
        rw [HJB.out]
        go_wp2_with fail
        go_at_call 113
        refine (l02Free_any g n c js _ HN.out hm HJ.out).mono ?_
        rintro e w' ⟨rfl, rfl⟩
        rw [HFR.out]
        go_wp2_with fail
        go_at_call 69
        refine (l00In_any _ _ _ _).mono ?_
        rintro e w' ⟨rfl, rfl⟩
        rw [HIN.out]
        go_wp2_with fail
        go_at_call 69
        refine (l00In_any _ _ _ _).mono ?_
        rintro e w' ⟨rfl, rfl⟩
        rw [HIM.out]
        go_wp2_with fail
        go_ret3
        exact ⟨rfl, .refl _ _⟩

set_option maxHeartbeats 2000000 in
set_option maxRecDepth 100000 in
theorem implBP_no (w : World) (g n c : Nat) (js : List J) (hn : js.length = n) (hcap : n ≤ c) (hm : n ≤ 1048576) (hj : JRd w g 0 js) (hg : g < w.heap.size) (ch : Int) (c0 : -9223372036854775808 ≤ ch) (c1 : ch ≤ 9223372036854775807) (most : Int) (m0 : -9223372036854775808 ≤ most) (m1 : most ≤ 9223372036854775807) (hc : bpB js ch most = false) :
    Calls Try.prog 66 #[.slice (some ⟨g, 0, none⟩) n c, .int .i64 ch, .int .i64 most] w fun e w' => e = .returned (.tuple #[.slice none 0 0, .int .i64 0, .bool false]) ∧ Below w.heap.size w w' := by
  have HN := Lib.hid hn; have HJ := Lib.hid hj
  cases hao : aoB js with
  | false =>
    have HAO := Lib.hid hao; clear hao hc
    clear hn hj
    go_enter Try.func66, Try.ntmps66
    go_wp2_with fail
    go_at_call 115
    refine (areAtOnce_any g n c js _ HN.out hm HJ.out hg).mono ?_
    rintro e w1 ⟨rfl, hb1⟩
    have HB1 := Lib.hid hb1
    clear hb1
    rw [HAO.out]
    go_wp2_with fail
    go_ret3
    exact ⟨rfl, HB1.out⟩
  | true =>
    cases hin : inB ch 0 10000 with
    | false =>
      have HAO := Lib.hid hao; have HIN := Lib.hid hin; clear hao hin hc
      clear hn hj
      go_enter Try.func66, Try.ntmps66
      go_wp2_with fail
      go_at_call 115
      refine (areAtOnce_any g n c js _ HN.out hm HJ.out hg).mono ?_
      rintro e w1 ⟨rfl, hb1⟩
      have HB1 := Lib.hid hb1
      clear hb1
      rw [HAO.out]
      go_wp2_with fail
      go_at_call 71
      refine (within_any _ _ _ _).mono ?_
      rintro e w' ⟨rfl, rfl⟩
      rw [HIN.out]
      go_wp2_with fail
      go_ret3
      exact ⟨rfl, HB1.out⟩
    | true =>
      have him : inB most 1 24 = false := by unfold bpB at hc; rw [hao, hin] at hc; simpa using hc
      have HAO := Lib.hid hao; have HIN := Lib.hid hin; have HIM := Lib.hid him; clear hao hin him hc
      clear hn hj
      go_enter Try.func66, Try.ntmps66
      go_wp2_with fail
      go_at_call 115
      refine (areAtOnce_any g n c js _ HN.out hm HJ.out hg).mono ?_
      rintro e w1 ⟨rfl, hb1⟩
      have HB1 := Lib.hid hb1
      clear hb1
      rw [HAO.out]
      go_wp2_with fail
      go_at_call 71
      refine (within_any _ _ _ _).mono ?_
      rintro e w' ⟨rfl, rfl⟩
      rw [HIN.out]
      go_wp2_with fail
      go_at_call 71
      refine (within_any _ _ _ _).mono ?_
      rintro e w' ⟨rfl, rfl⟩
      rw [HIM.out]
      go_wp2_with fail
      go_ret3
      exact ⟨rfl, HB1.out⟩

theorem bpL_len {js : List J} {ch most : Int} (h : bpB js ch most = true) : (bpL js ch most).length ≤ 1048576 := by
  have hok := bpOk h
  have h1 := best_len (S := bpS js ch most) (n := js.length) (js.length + 1) (Nat.le_refl _)
  have h2 := hok.n2
  unfold bpL
  rw [List.length_reverse]; omega

set_option maxHeartbeats 8000000 in
set_option maxRecDepth 100000 in
theorem batchPlan_walk_no (a0 : Option Addr) (len0 cap0 : Nat) (z0 : List J) (x1 : Int) (x2 : Int) (w : World) (w0 : IsJobs w a0 len0 z0 ∧ len0 ≤ maxLen) (wf1 : (Lit.int .i64 x1).wf = true) (wf2 : (Lit.int .i64 x2).wf = true) (h0 : len0 ≤ 1048576) (hc : bpB z0 x1 x2 = false) :
    Calls Try.prog 20 #[.slice a0 len0 cap0, .int .i64 x1, .int .i64 x2] w fun e w' => e = .returned (.bool true) ∧ Below w.heap.size w w' := by
  obtain ⟨w0, hlen0⟩ := w0
  have W0 := Lib.hid w0; clear w0
  have HL0 := Lib.hid W0.out.1
  unfold maxLen at hlen0
  have bd1 : -9223372036854775808 ≤ x1 ∧ x1 ≤ 9223372036854775807 := by simpa [Lit.wf, IntKind.min, IntKind.max, IntKind.signed, IntKind.bits] using wf1
  obtain ⟨lo1, hi1⟩ := bd1
  clear wf1
  have bd2 : -9223372036854775808 ≤ x2 ∧ x2 ≤ 9223372036854775807 := by simpa [Lit.wf, IntKind.min, IntKind.max, IntKind.signed, IntKind.bits] using wf2
  obtain ⟨lo2, hi2⟩ := bd2
  clear wf2
  have HC := Lib.hid hc; clear hc
  have hz0 : szV (1048576) len0 = 1048576 - len0 := by unfold szV; rw [if_neg (by omega)]
  have HZ0 := Lib.hid hz0; clear hz0
  go_enter Try.func20, Try.ntmps20
  go_wp2_with fail
  go_at_call 26
  refine (szJobS_any _ _ _ _ _ (by omega) (by omega) (by omega)).mono ?_
  rintro e w' ⟨rfl, rfl⟩
  rw [HZ0.out]
  have B0 := Lib.hid (Below.refl w.heap.size w)
  go_wp2_with fail
  go_at_call 28
  refine (toJobS_any a0 len0 cap0 z0 _ (W0.out.below B0.out) h0).mono ?_
  rintro e w1 ⟨gS0, rfl, hr, hg, hb⟩
  rw [HL0.out]
  have B1 := Lib.hid (B0.out.trans (hb.mono B0.out.size))
  have ge_S0 : w.heap.size ≤ gS0 := by have := B0.out.size; omega
  have S0_1 := Lib.hid hr
  clear hr hb hg
  go_wp2_with fail
  go_at_call 65
  refine (specBP_no _ gS0 len0 len0 z0 HL0.out (Nat.le_refl _) h0 S0_1.out.rd S0_1.out.lt x1 lo1 hi1 x2 lo2 hi2 HC.out).mono ?_
  rintro e w2 ⟨rfl, hb⟩
  have S0_2 := Lib.hid (S0_1.out.below hb S0_1.out.lt)
  have B2 := Lib.hid (B1.out.trans (hb.mono B1.out.size))
  clear hb
  go_wp2_with fail
  go_at_call 28
  refine (toJobS_any a0 len0 cap0 z0 _ (W0.out.below B2.out) h0).mono ?_
  rintro e w3 ⟨gX0, rfl, hr, hg, hb⟩
  rw [HL0.out]
  have B3 := Lib.hid (B2.out.trans (hb.mono B2.out.size))
  have ge_X0 : w.heap.size ≤ gX0 := by have := B2.out.size; omega
  have X0_3 := Lib.hid hr
  clear hr hb hg
  go_wp2_with fail
  go_at_call 66
  refine (implBP_no _ gX0 len0 len0 z0 HL0.out (Nat.le_refl _) h0 X0_3.out.rd X0_3.out.lt x1 lo1 hi1 x2 lo2 hi2 HC.out).mono ?_
  rintro e w4 ⟨rfl, hb⟩
  have X0_4 := Lib.hid (X0_3.out.below hb X0_3.out.lt)
  have B4 := Lib.hid (B3.out.trans (hb.mono B3.out.size))
  clear hb
  go_wp2_with fail
  go_at_call 25
  refine (eqInt64S_any _ _ _ _ _ _ [] [] _ rfl rfl (.inl rfl) (.inl rfl) (by first | omega | simp) (by first | omega | simp)).mono ?_
  rintro e w5 ⟨rfl, hd⟩
  rw [eqB_self]
  have hb : Below w4.heap.size w4 w5 := hd.below
  have X0_5 := Lib.hid (X0_4.out.below hb X0_4.out.lt)
  have B5 := Lib.hid (B4.out.trans (hb.mono B4.out.size))
  clear hb hd
  go_wp2_with fail
  go_at_call 28
  refine (toJobS_any a0 len0 cap0 z0 _ (W0.out.below B5.out) h0).mono ?_
  rintro e w6 ⟨gE0, rfl, hr, hg, hb⟩
  rw [HL0.out]
  have X0_6 := Lib.hid (X0_5.out.below hb X0_5.out.lt)
  have B6 := Lib.hid (B5.out.trans (hb.mono B5.out.size))
  have ne_E0_X0 : gE0 ≠ gX0 := by have := X0_5.out.lt; omega
  have ge_E0 : w.heap.size ≤ gE0 := by have := B5.out.size; omega
  have E0_6 := Lib.hid hr
  clear hr hb hg
  go_wp2_with fail
  go_at_call 30
  refine (eqJobS_any _ _ len0 len0 len0 len0 z0 z0 _ HL0.out HL0.out X0_6.out.at' E0_6.out.at' h0 h0).mono ?_
  rintro e w7 ⟨rfl, hb⟩
  rw [eqJs_self]
  have X0_7 := Lib.hid (X0_6.out.below hb X0_6.out.lt)
  have E0_7 := Lib.hid (E0_6.out.below hb E0_6.out.lt)
  have B7 := Lib.hid (B6.out.trans (hb.mono B6.out.size))
  clear hb
  go_wp2_with fail
  go_at_call 58
  refine (markJ_any _ gX0 len0 len0 z0 _ HL0.out h0 (by omega) (by omega) X0_7.out).mono ?_
  rintro e w8 ⟨rfl, ht⟩
  have B8 := Lib.hid (B7.out.trans (ht.below ge_X0 B7.out.size))
  clear ht
  go_wp2_with fail
  go_at_call 25
  refine (eqInt64S_any _ _ _ _ _ _ [] [] _ rfl rfl (.inl rfl) (.inl rfl) (by first | omega | simp) (by first | omega | simp)).mono ?_
  rintro e w9 ⟨rfl, hd⟩
  rw [eqB_self]
  have hb : Below w8.heap.size w8 w9 := hd.below
  have B9 := Lib.hid (B8.out.trans (hb.mono B8.out.size))
  clear hb hd
  go_wp2_with fail
  go_at_call 39
  refine (mark_nil _ _ _ _).mono ?_
  rintro e w' ⟨rfl, rfl⟩
  go_wp2_with fail
  go_at_call 40
  refine (held_nil _ _ _ _).mono ?_
  rintro e w' ⟨rfl, rfl⟩
  go_wp2_with fail
  go_at_call 28
  refine (toJobS_any a0 len0 cap0 z0 _ (W0.out.below B9.out) h0).mono ?_
  rintro e w10 ⟨gT0, rfl, hr, hg, hb⟩
  rw [HL0.out]
  have B10 := Lib.hid (B9.out.trans (hb.mono B9.out.size))
  have ge_T0 : w.heap.size ≤ gT0 := by have := B9.out.size; omega
  have T0_10 := Lib.hid hr
  clear hr hb hg
  go_wp2_with fail
  go_at_call 66
  refine (implBP_no _ gT0 len0 len0 z0 HL0.out (Nat.le_refl _) h0 T0_10.out.rd T0_10.out.lt x1 lo1 hi1 x2 lo2 hi2 HC.out).mono ?_
  rintro e w11 ⟨rfl, hb⟩
  have T0_11 := Lib.hid (T0_10.out.below hb T0_10.out.lt)
  have B11 := Lib.hid (B10.out.trans (hb.mono B10.out.size))
  clear hb
  go_wp2_with fail
  go_at_call 25
  refine (eqInt64S_any _ _ _ _ _ _ [] [] _ rfl rfl (.inl rfl) (.inl rfl) (by first | omega | simp) (by first | omega | simp)).mono ?_
  rintro e w12 ⟨rfl, hd⟩
  rw [eqB_self]
  have hb : Below w11.heap.size w11 w12 := hd.below
  have T0_12 := Lib.hid (T0_11.out.below hb T0_11.out.lt)
  have B12 := Lib.hid (B11.out.trans (hb.mono B11.out.size))
  clear hb hd
  go_wp2_with fail
  go_at_call 40
  refine (held_nil _ _ _ _).mono ?_
  rintro e w' ⟨rfl, rfl⟩
  go_wp2
  go_ret
  exact ⟨rfl, B12.out⟩

set_option maxHeartbeats 8000000 in
set_option maxRecDepth 100000 in
theorem batchPlan_walk_yes (a0 : Option Addr) (len0 cap0 : Nat) (z0 : List J) (x1 : Int) (x2 : Int) (w : World) (w0 : IsJobs w a0 len0 z0 ∧ len0 ≤ maxLen) (wf1 : (Lit.int .i64 x1).wf = true) (wf2 : (Lit.int .i64 x2).wf = true) (h0 : len0 ≤ 1048576) (hc : bpB z0 x1 x2 = true) :
    Calls Try.prog 20 #[.slice a0 len0 cap0, .int .i64 x1, .int .i64 x2] w fun e w' => e = .returned (.bool true) ∧ Below w.heap.size w w' := by
  obtain ⟨w0, hlen0⟩ := w0
  have W0 := Lib.hid w0; clear w0
  have HL0 := Lib.hid W0.out.1
  unfold maxLen at hlen0
  have bd1 : -9223372036854775808 ≤ x1 ∧ x1 ≤ 9223372036854775807 := by simpa [Lit.wf, IntKind.min, IntKind.max, IntKind.signed, IntKind.bits] using wf1
  obtain ⟨lo1, hi1⟩ := bd1
  clear wf1
  have bd2 : -9223372036854775808 ≤ x2 ∧ x2 ≤ 9223372036854775807 := by simpa [Lit.wf, IntKind.min, IntKind.max, IntKind.signed, IntKind.bits] using wf2
  obtain ⟨lo2, hi2⟩ := bd2
  clear wf2
  have hbdl0 := bpL_len hc
  obtain ⟨m0, hm0⟩ : ∃ m, (bpL z0 x1 x2).length = m := ⟨_, rfl⟩
  rw [hm0] at hbdl0
  have HR0 := Lib.hid hm0; clear hm0
  obtain ⟨LL0, hLL0⟩ : ∃ l, bpL z0 x1 x2 = l := ⟨_, rfl⟩
  have HLL0 := Lib.hid hLL0; clear hLL0
  have HRL0 : Hid (LL0.length = m0) := Lib.hid (by rw [← HLL0.out]; exact HR0.out)
  have HC := Lib.hid hc; clear hc
  have hz0 : szV (1048576) len0 = 1048576 - len0 := by unfold szV; rw [if_neg (by omega)]
  have HZ0 := Lib.hid hz0; clear hz0
  go_enter Try.func20, Try.ntmps20
  go_wp2_with fail
  go_at_call 26
  refine (szJobS_any _ _ _ _ _ (by omega) (by omega) (by omega)).mono ?_
  rintro e w' ⟨rfl, rfl⟩
  rw [HZ0.out]
  have B0 := Lib.hid (Below.refl w.heap.size w)
  go_wp2_with fail
  go_at_call 28
  refine (toJobS_any a0 len0 cap0 z0 _ (W0.out.below B0.out) h0).mono ?_
  rintro e w1 ⟨gS0, rfl, hr, hg, hb⟩
  rw [HL0.out]
  have B1 := Lib.hid (B0.out.trans (hb.mono B0.out.size))
  have ge_S0 : w.heap.size ≤ gS0 := by have := B0.out.size; omega
  have S0_1 := Lib.hid hr
  clear hr hb hg
  go_wp2_with fail
  go_at_call 65
  refine (specBP_yes _ gS0 len0 len0 z0 HL0.out (Nat.le_refl _) h0 S0_1.out.rd S0_1.out.lt x1 lo1 hi1 x2 lo2 hi2 HC.out).mono ?_
  rintro e w2 ⟨gV0, cV0, rfl, hr0, hg0, hb⟩
  rw [HLL0.out] at hr0
  rw [HR0.out]
  have S0_2 := Lib.hid (S0_1.out.below hb S0_1.out.lt)
  have B2 := Lib.hid (B1.out.trans (hb.mono B1.out.size))
  have ne_V0_S0 : gV0 ≠ gS0 := by have := S0_1.out.lt; omega
  have ge_V0 : w.heap.size ≤ gV0 := by have := B1.out.size; omega
  have V0_2 := Lib.hid hr0
  clear hb hr0 hg0
  go_wp2_with fail
  go_at_call 28
  refine (toJobS_any a0 len0 cap0 z0 _ (W0.out.below B2.out) h0).mono ?_
  rintro e w3 ⟨gX0, rfl, hr, hg, hb⟩
  rw [HL0.out]
  have V0_3 := Lib.hid (V0_2.out.below hb V0_2.out.lt)
  have B3 := Lib.hid (B2.out.trans (hb.mono B2.out.size))
  have ne_X0_V0 : gX0 ≠ gV0 := by have := V0_2.out.lt; omega
  have ge_X0 : w.heap.size ≤ gX0 := by have := B2.out.size; omega
  have X0_3 := Lib.hid hr
  clear hr hb hg
  go_wp2_with fail
  go_at_call 66
  refine (implBP_yes _ gX0 len0 len0 z0 HL0.out (Nat.le_refl _) h0 X0_3.out.rd X0_3.out.lt x1 lo1 hi1 x2 lo2 hi2 HC.out).mono ?_
  rintro e w4 ⟨gG0, cG0, rfl, hr0, hg0, hb⟩
  rw [HLL0.out] at hr0
  rw [HR0.out]
  have V0_4 := Lib.hid (V0_3.out.below hb V0_3.out.lt)
  have X0_4 := Lib.hid (X0_3.out.below hb X0_3.out.lt)
  have B4 := Lib.hid (B3.out.trans (hb.mono B3.out.size))
  have ne_G0_V0 : gG0 ≠ gV0 := by have := V0_3.out.lt; omega
  have ne_G0_X0 : gG0 ≠ gX0 := by have := X0_3.out.lt; omega
  have ge_G0 : w.heap.size ≤ gG0 := by have := B3.out.size; omega
  have G0_4 := Lib.hid hr0
  clear hb hr0 hg0
  go_wp2_with fail
  go_at_call 25
  refine (eqInt64S_any _ _ _ _ _ _ LL0 LL0 _ HRL0.out HRL0.out G0_4.out.at' V0_4.out.at' (by first | omega | simp) (by first | omega | simp)).mono ?_
  rintro e w5 ⟨rfl, hd⟩
  rw [eqB_self]
  have hb : Below w4.heap.size w4 w5 := hd.below
  have V0_5 := Lib.hid (V0_4.out.below hb V0_4.out.lt)
  have X0_5 := Lib.hid (X0_4.out.below hb X0_4.out.lt)
  have G0_5 := Lib.hid (G0_4.out.below hb G0_4.out.lt)
  have B5 := Lib.hid (B4.out.trans (hb.mono B4.out.size))
  clear hb hd
  go_wp2_with fail
  go_at_call 28
  refine (toJobS_any a0 len0 cap0 z0 _ (W0.out.below B5.out) h0).mono ?_
  rintro e w6 ⟨gE0, rfl, hr, hg, hb⟩
  rw [HL0.out]
  have V0_6 := Lib.hid (V0_5.out.below hb V0_5.out.lt)
  have X0_6 := Lib.hid (X0_5.out.below hb X0_5.out.lt)
  have G0_6 := Lib.hid (G0_5.out.below hb G0_5.out.lt)
  have B6 := Lib.hid (B5.out.trans (hb.mono B5.out.size))
  have ne_E0_V0 : gE0 ≠ gV0 := by have := V0_5.out.lt; omega
  have ne_E0_X0 : gE0 ≠ gX0 := by have := X0_5.out.lt; omega
  have ne_E0_G0 : gE0 ≠ gG0 := by have := G0_5.out.lt; omega
  have ge_E0 : w.heap.size ≤ gE0 := by have := B5.out.size; omega
  have E0_6 := Lib.hid hr
  clear hr hb hg
  go_wp2_with fail
  go_at_call 30
  refine (eqJobS_any _ _ len0 len0 len0 len0 z0 z0 _ HL0.out HL0.out X0_6.out.at' E0_6.out.at' h0 h0).mono ?_
  rintro e w7 ⟨rfl, hb⟩
  rw [eqJs_self]
  have V0_7 := Lib.hid (V0_6.out.below hb V0_6.out.lt)
  have X0_7 := Lib.hid (X0_6.out.below hb X0_6.out.lt)
  have G0_7 := Lib.hid (G0_6.out.below hb G0_6.out.lt)
  have E0_7 := Lib.hid (E0_6.out.below hb E0_6.out.lt)
  have B7 := Lib.hid (B6.out.trans (hb.mono B6.out.size))
  clear hb
  go_wp2_with fail
  go_at_call 58
  refine (markJ_any _ gX0 len0 len0 z0 _ HL0.out h0 (by omega) (by omega) X0_7.out).mono ?_
  rintro e w8 ⟨rfl, ht⟩
  have V0_8 := Lib.hid (V0_7.out.touch ht (Ne.symm ne_X0_V0))
  have G0_8 := Lib.hid (G0_7.out.touch ht ne_G0_X0)
  have B8 := Lib.hid (B7.out.trans (ht.below ge_X0 B7.out.size))
  clear ht
  go_wp2_with fail
  go_at_call 25
  refine (eqInt64S_any _ _ _ _ _ _ LL0 LL0 _ HRL0.out HRL0.out G0_8.out.at' V0_8.out.at' (by first | omega | simp) (by first | omega | simp)).mono ?_
  rintro e w9 ⟨rfl, hd⟩
  rw [eqB_self]
  have hb : Below w8.heap.size w8 w9 := hd.below
  have V0_9 := Lib.hid (V0_8.out.below hb V0_8.out.lt)
  have G0_9 := Lib.hid (G0_8.out.below hb G0_8.out.lt)
  have B9 := Lib.hid (B8.out.trans (hb.mono B8.out.size))
  clear hb hd
  go_wp2_with fail
  go_at_call 39
  refine (mark_any _ gG0 m0 cG0 LL0 _ HRL0.out (by omega) (by omega) (by omega) G0_9.out).mono ?_
  rintro e w10 ⟨rfl, hmk, ht⟩
  have V0_10 := Lib.hid (V0_9.out.touch ht (Ne.symm ne_G0_V0))
  have B10 := Lib.hid (B9.out.trans (ht.below ge_G0 B9.out.size))
  have G0_10 := Lib.hid hmk
  clear ht hmk
  go_wp2_with fail
  go_at_call 40
  refine (held_any _ gG0 m0 cG0 _ (by omega) (by omega) (by omega) (G0_10.out.rd)).mono ?_
  rintro e w' ⟨rfl, rfl⟩
  go_wp2_with fail
  go_at_call 28
  refine (toJobS_any a0 len0 cap0 z0 _ (W0.out.below B10.out) h0).mono ?_
  rintro e w11 ⟨gT0, rfl, hr, hg, hb⟩
  rw [HL0.out]
  have V0_11 := Lib.hid (V0_10.out.below hb V0_10.out.lt)
  have G0_11 := Lib.hid (G0_10.out.below hb G0_10.out.lt)
  have B11 := Lib.hid (B10.out.trans (hb.mono B10.out.size))
  have ne_T0_V0 : gT0 ≠ gV0 := by have := V0_10.out.lt; omega
  have ne_T0_G0 : gT0 ≠ gG0 := by have := G0_10.out.lt; omega
  have ge_T0 : w.heap.size ≤ gT0 := by have := B10.out.size; omega
  have T0_11 := Lib.hid hr
  clear hr hb hg
  go_wp2_with fail
  go_at_call 66
  refine (implBP_yes _ gT0 len0 len0 z0 HL0.out (Nat.le_refl _) h0 T0_11.out.rd T0_11.out.lt x1 lo1 hi1 x2 lo2 hi2 HC.out).mono ?_
  rintro e w12 ⟨gH0, cH0, rfl, hr0, hg0, hb⟩
  rw [HLL0.out] at hr0
  rw [HR0.out]
  have V0_12 := Lib.hid (V0_11.out.below hb V0_11.out.lt)
  have G0_12 := Lib.hid (G0_11.out.below hb G0_11.out.lt)
  have T0_12 := Lib.hid (T0_11.out.below hb T0_11.out.lt)
  have B12 := Lib.hid (B11.out.trans (hb.mono B11.out.size))
  have ne_H0_V0 : gH0 ≠ gV0 := by have := V0_11.out.lt; omega
  have ne_H0_G0 : gH0 ≠ gG0 := by have := G0_11.out.lt; omega
  have ne_H0_T0 : gH0 ≠ gT0 := by have := T0_11.out.lt; omega
  have ge_H0 : w.heap.size ≤ gH0 := by have := B11.out.size; omega
  have H0_12 := Lib.hid hr0
  clear hb hr0 hg0
  go_wp2_with fail
  go_at_call 25
  refine (eqInt64S_any _ _ _ _ _ _ LL0 LL0 _ HRL0.out HRL0.out H0_12.out.at' V0_12.out.at' (by first | omega | simp) (by first | omega | simp)).mono ?_
  rintro e w13 ⟨rfl, hd⟩
  rw [eqB_self]
  have hb : Below w12.heap.size w12 w13 := hd.below
  have V0_13 := Lib.hid (V0_12.out.below hb V0_12.out.lt)
  have G0_13 := Lib.hid (G0_12.out.below hb G0_12.out.lt)
  have T0_13 := Lib.hid (T0_12.out.below hb T0_12.out.lt)
  have H0_13 := Lib.hid (H0_12.out.below hb H0_12.out.lt)
  have B13 := Lib.hid (B12.out.trans (hb.mono B12.out.size))
  clear hb hd
  go_wp2_with fail
  go_at_call 40
  refine (held_any _ gG0 m0 cG0 _ (by omega) (by omega) (by omega) (G0_13.out.rd)).mono ?_
  rintro e w' ⟨rfl, rfl⟩
  go_wp2
  go_ret
  exact ⟨rfl, B13.out⟩

set_option maxHeartbeats 4000000 in
theorem batchPlan_walk (a0 : Option Addr) (len0 cap0 : Nat) (z0 : List J) (x1 : Int) (x2 : Int) (w : World) (w0 : IsJobs w a0 len0 z0 ∧ len0 ≤ maxLen) (wf1 : (Lit.int .i64 x1).wf = true) (wf2 : (Lit.int .i64 x2).wf = true) :
    Calls Try.prog 20 #[.slice a0 len0 cap0, .int .i64 x1, .int .i64 x2] w fun e w' => e = .returned (.bool true) ∧ Below w.heap.size w w' := by
  by_cases hs0 : len0 ≤ 1048576
  case neg =>
    have hz0 : szV (1048576) len0 = -1 := by unfold szV; rw [if_pos (by omega)]
    have HZ0 := Lib.hid hz0; clear hz0
    have hlen0 := w0.2; unfold maxLen at hlen0
    clear w0
    go_enter Try.func20, Try.ntmps20
    go_wp2_with fail
    go_at_call 26
    refine (szJobS_any _ _ _ _ _ (by omega) (by omega) (by omega)).mono ?_
    rintro e w' ⟨rfl, rfl⟩
    rw [HZ0.out]
    go_wp2
    go_ret
    exact ⟨rfl, .refl _ _⟩
  have hz0 : szV (1048576) len0 = 1048576 - len0 := by unfold szV; rw [if_neg (by omega)]
  have HZ0 := Lib.hid hz0; clear hz0
  have h0 : len0 ≤ 1048576 := by omega
  cases hc : bpB z0 x1 x2
  · exact batchPlan_walk_no a0 len0 cap0 z0 x1 x2 w w0 wf1 wf2 h0 hc
  · exact batchPlan_walk_yes a0 len0 cap0 z0 x1 x2 w w0 wf1 wf2 h0 hc

end Go.Proofs.Ytncmhinpjkkfkaa
