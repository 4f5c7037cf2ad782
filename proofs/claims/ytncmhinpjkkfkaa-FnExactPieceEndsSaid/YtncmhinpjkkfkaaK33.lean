/-
  Walks: the law PieceEnds. Conditions: none.
-/
import Derived.Test.YtncmhinpjkkfkaaK29
import Derived.Test.YtncmhinpjkkfkaaK30
import Derived.Test.YtncmhinpjkkfkaaK31
import Derived.Test.YtncmhinpjkkfkaaK32
namespace Go.Proofs.Ytncmhinpjkkfkaa
open Go Go.RowKit

set_option maxHeartbeats 4000000 in
set_option maxRecDepth 100000 in
theorem specPcB_no (w : World) (g n c : Nat) (js : List J) (hn : js.length = n) (hcap : n ≤ c) (hm : n ≤ 1048576) (hj : JRd w g 0 js) (hg : g < w.heap.size) (x : Int) (lo : -9223372036854775808 ≤ x) (hi : x ≤ 9223372036854775807) (hc : pcB js x = false) :
    Calls Try.prog 59 #[.slice (some ⟨g, 0, none⟩) n c, .int .i64 x] w (fun e w' => e = .returned (.tuple #[.slice none 0 0, .slice none 0 0, .bool false]) ∧ Below w.heap.size w w') := by
  cases hjb : jobsB js
  · have HN := Lib.hid hn; have HJ := Lib.hid hj; have HJB := Lib.hid hjb
    clear hn hj hjb hc
    go_enter Try.func59, Try.ntmps59
    go_wp2_with (go_at_call 77; refine (l02Jobs_any _ n c js _ HN.out hm (.inr ⟨g, 0, rfl, HJ.out⟩)).mono ?_; rintro e w' ⟨rfl, rfl⟩; rw [HJB.out])
    go_ret3
    exact ⟨rfl, .refl _ _⟩
  cases hrb : inB x 0 1
  · have HN := Lib.hid hn; have HJ := Lib.hid hj; have HJB := Lib.hid hjb; have HRB := Lib.hid hrb
    clear hn hj hjb hrb hc
    go_enter Try.func59, Try.ntmps59
    go_wp2_with (first | (go_at_call 77; refine (l02Jobs_any _ n c js _ HN.out hm (.inr ⟨g, 0, rfl, HJ.out⟩)).mono ?_; rintro e w' ⟨rfl, rfl⟩; rw [HJB.out]) | (go_at_call 69; refine (l00In_any _ 0 1 _).mono ?_; rintro e w' ⟨rfl, rfl⟩; rw [HRB.out]))
    go_ret3
    exact ⟨rfl, .refl _ _⟩
  obtain ⟨x0, x1⟩ := inB_lo hrb
  have hq : ∀ e w', PcQ js x w e w' → PcN w e w' := fun e w' h => by
    unfold PcQ at h; rwa [if_neg (by rw [hc]; decide)] at h
  have hx : x = 0 ∨ x = 1 := by omega
  rcases hx with rfl | rfl
  · exact (specPc0 w g n c js hn hcap hm hj hg hjb).mono hq
  · exact (specPc1 w g n c js hn hcap hm hj hg hjb).mono hq

theorem specPcB_yes (w : World) (g n c : Nat) (js : List J) (hn : js.length = n) (hcap : n ≤ c) (hm : n ≤ 1048576) (hj : JRd w g 0 js) (hg : g < w.heap.size) (x : Int) (lo : -9223372036854775808 ≤ x) (hi : x ≤ 9223372036854775807) (hc : pcB js x = true) :
    Calls Try.prog 59 #[.slice (some ⟨g, 0, none⟩) n c, .int .i64 x] w (PcP js x w) := by
  have h := hc
  unfold pcB at h
  rw [Bool.and_eq_true, Bool.and_eq_true] at h
  obtain ⟨x0, x1⟩ := inB_lo h.2.1
  have hq : ∀ e w', PcQ js x w e w' → PcP js x w e w' := fun e w' h => by
    unfold PcQ at h; rwa [if_pos hc] at h
  have hx : x = 0 ∨ x = 1 := by omega
  rcases hx with rfl | rfl
  · exact (specPc0 w g n c js hn hcap hm hj hg h.1).mono hq
  · exact (specPc1 w g n c js hn hcap hm hj hg h.1).mono hq

set_option maxHeartbeats 4000000 in
set_option maxRecDepth 100000 in
theorem implPcB_no (w : World) (g n c : Nat) (js : List J) (hn : js.length = n) (hcap : n ≤ c) (hm : n ≤ 1048576) (hj : JRd w g 0 js) (hg : g < w.heap.size) (x : Int) (lo : -9223372036854775808 ≤ x) (hi : x ≤ 9223372036854775807) (hc : pcB js x = false) :
    Calls Try.prog 60 #[.slice (some ⟨g, 0, none⟩) n c, .int .i64 x] w (fun e w' => e = .returned (.tuple #[.slice none 0 0, .slice none 0 0, .bool false]) ∧ Below w.heap.size w w') := by
  cases hjb : jobsB js
  · have HN := Lib.hid hn; have HJ := Lib.hid hj; have HJB := Lib.hid hjb
    clear hn hj hjb hc
    go_enter Try.func60, Try.ntmps60
    go_wp2_with (go_at_call 32; refine (implAreJobs_any _ n c js _ HN.out hm (.inr ⟨g, 0, rfl, HJ.out⟩)).mono ?_; rintro e w1 ⟨rfl, hb⟩; rw [HJB.out]; have B1 := Lib.hid hb; clear hb)
    go_ret3
    exact ⟨rfl, B1.out⟩
  cases hrb : inB x 0 1
  · have HN := Lib.hid hn; have HJ := Lib.hid hj; have HJB := Lib.hid hjb; have HRB := Lib.hid hrb
    clear hn hj hjb hrb hc
    go_enter Try.func60, Try.ntmps60
    go_wp2_with (first | (go_at_call 32; refine (implAreJobs_any _ n c js _ HN.out hm (.inr ⟨g, 0, rfl, HJ.out⟩)).mono ?_; rintro e w1 ⟨rfl, hb⟩; rw [HJB.out]; have B1 := Lib.hid hb; clear hb) | (go_at_call 71; refine (within_any _ 0 1 _).mono ?_; rintro e w' ⟨rfl, rfl⟩; rw [HRB.out]))
    go_ret3
    exact ⟨rfl, B1.out⟩
  obtain ⟨x0, x1⟩ := inB_lo hrb
  have hq : ∀ e w', PcQ js x w e w' → PcN w e w' := fun e w' h => by
    unfold PcQ at h; rwa [if_neg (by rw [hc]; decide)] at h
  have hx : x = 0 ∨ x = 1 := by omega
  rcases hx with rfl | rfl
  · exact (implPc0 w g n c js hn hcap hm hj hg hjb).mono hq
  · exact (implPc1 w g n c js hn hcap hm hj hg hjb).mono hq

theorem implPcB_yes (w : World) (g n c : Nat) (js : List J) (hn : js.length = n) (hcap : n ≤ c) (hm : n ≤ 1048576) (hj : JRd w g 0 js) (hg : g < w.heap.size) (x : Int) (lo : -9223372036854775808 ≤ x) (hi : x ≤ 9223372036854775807) (hc : pcB js x = true) :
    Calls Try.prog 60 #[.slice (some ⟨g, 0, none⟩) n c, .int .i64 x] w (PcP js x w) := by
  have h := hc
  unfold pcB at h
  rw [Bool.and_eq_true, Bool.and_eq_true] at h
  obtain ⟨x0, x1⟩ := inB_lo h.2.1
  have hq : ∀ e w', PcQ js x w e w' → PcP js x w e w' := fun e w' h => by
    unfold PcQ at h; rwa [if_pos hc] at h
  have hx : x = 0 ∨ x = 1 := by omega
  rcases hx with rfl | rfl
  · exact (implPc0 w g n c js hn hcap hm hj hg h.1).mono hq
  · exact (implPc1 w g n c js hn hcap hm hj hg h.1).mono hq

set_option maxHeartbeats 8000000 in
set_option maxRecDepth 100000 in
theorem pieceEnds_walk_no (a0 : Option Addr) (len0 cap0 : Nat) (z0 : List J) (x1 : Int) (w : World) (w0 : IsJobs w a0 len0 z0 ∧ len0 ≤ maxLen) (wf1 : (Lit.int .i64 x1).wf = true) (h0 : len0 ≤ 1048576) (hc : pcB z0 x1 = false) :
    Calls Try.prog 17 #[.slice a0 len0 cap0, .int .i64 x1] w fun e w' => e = .returned (.bool true) ∧ Below w.heap.size w w' := by
  obtain ⟨w0, hlen0⟩ := w0
  have W0 := Lib.hid w0; clear w0
  have HL0 := Lib.hid W0.out.1
  unfold maxLen at hlen0
  have bd1 : -9223372036854775808 ≤ x1 ∧ x1 ≤ 9223372036854775807 := by simpa [Lit.wf, IntKind.min, IntKind.max, IntKind.signed, IntKind.bits] using wf1
  obtain ⟨lo1, hi1⟩ := bd1
  clear wf1
  have HC := Lib.hid hc; clear hc
  have hz0 : szV (1048576) len0 = 1048576 - len0 := by unfold szV; rw [if_neg (by omega)]
  have HZ0 := Lib.hid hz0; clear hz0
  go_enter Try.func17, Try.ntmps17
  go_wp2_with fail
  go_at_call 26
  refine (szJobS_any _ _ _ _ _ (by omega) (by omega) (by omega)).mono ?_
  rintro e w' ⟨rfl, rfl⟩
  rw [HZ0.out]
  have B0 := Lib.hid (Below.refl w.heap.size w)
  go_wp2_with fail
  go_at_call 28
  refine (toJobS_any a0 len0 cap0 z0 _ (W0.out.below B0.out) h0).mono ?_
  rintro e w1 ⟨gS0, rfl, hr, hg, hb⟩
  rw [HL0.out]
  have B1 := Lib.hid (B0.out.trans (hb.mono B0.out.size))
  have ge_S0 : w.heap.size ≤ gS0 := by have := B0.out.size; omega
  have S0_1 := Lib.hid hr
  clear hr hb hg
  go_wp2_with fail
  go_at_call 59
  refine (specPcB_no _ gS0 len0 len0 z0 HL0.out (Nat.le_refl _) h0 S0_1.out.rd S0_1.out.lt x1 lo1 hi1 HC.out).mono ?_
  rintro e w2 ⟨rfl, hb⟩
  have S0_2 := Lib.hid (S0_1.out.below hb S0_1.out.lt)
  have B2 := Lib.hid (B1.out.trans (hb.mono B1.out.size))
  clear hb
  go_wp2_with fail
  go_at_call 28
  refine (toJobS_any a0 len0 cap0 z0 _ (W0.out.below B2.out) h0).mono ?_
  rintro e w3 ⟨gX0, rfl, hr, hg, hb⟩
  rw [HL0.out]
  have B3 := Lib.hid (B2.out.trans (hb.mono B2.out.size))
  have ge_X0 : w.heap.size ≤ gX0 := by have := B2.out.size; omega
  have X0_3 := Lib.hid hr
  clear hr hb hg
  go_wp2_with fail
  go_at_call 60
  refine (implPcB_no _ gX0 len0 len0 z0 HL0.out (Nat.le_refl _) h0 X0_3.out.rd X0_3.out.lt x1 lo1 hi1 HC.out).mono ?_
  rintro e w4 ⟨rfl, hb⟩
  have X0_4 := Lib.hid (X0_3.out.below hb X0_3.out.lt)
  have B4 := Lib.hid (B3.out.trans (hb.mono B3.out.size))
  clear hb
  go_wp2_with fail
  go_at_call 25
  refine (eqInt64S_any _ _ _ _ _ _ [] [] _ rfl rfl (.inl rfl) (.inl rfl) (by first | omega | simp) (by first | omega | simp)).mono ?_
  rintro e w5 ⟨rfl, hd⟩
  rw [eqB_self]
  have hb : Below w4.heap.size w4 w5 := hd.below
  have X0_5 := Lib.hid (X0_4.out.below hb X0_4.out.lt)
  have B5 := Lib.hid (B4.out.trans (hb.mono B4.out.size))
  clear hb hd
  go_wp2_with fail
  go_at_call 25
  refine (eqInt64S_any _ _ _ _ _ _ [] [] _ rfl rfl (.inl rfl) (.inl rfl) (by first | omega | simp) (by first | omega | simp)).mono ?_
  rintro e w6 ⟨rfl, hd⟩
  rw [eqB_self]
  have hb : Below w5.heap.size w5 w6 := hd.below
  have X0_6 := Lib.hid (X0_5.out.below hb X0_5.out.lt)
  have B6 := Lib.hid (B5.out.trans (hb.mono B5.out.size))
  clear hb hd
  go_wp2_with fail
  go_at_call 28
  refine (toJobS_any a0 len0 cap0 z0 _ (W0.out.below B6.out) h0).mono ?_
  rintro e w7 ⟨gE0, rfl, hr, hg, hb⟩
  rw [HL0.out]
  have X0_7 := Lib.hid (X0_6.out.below hb X0_6.out.lt)
  have B7 := Lib.hid (B6.out.trans (hb.mono B6.out.size))
  have ne_E0_X0 : gE0 ≠ gX0 := by have := X0_6.out.lt; omega
  have ge_E0 : w.heap.size ≤ gE0 := by have := B6.out.size; omega
  have E0_7 := Lib.hid hr
  clear hr hb hg
  go_wp2_with fail
  go_at_call 30
  refine (eqJobS_any _ _ len0 len0 len0 len0 z0 z0 _ HL0.out HL0.out X0_7.out.at' E0_7.out.at' h0 h0).mono ?_
  rintro e w8 ⟨rfl, hb⟩
  rw [eqJs_self]
  have X0_8 := Lib.hid (X0_7.out.below hb X0_7.out.lt)
  have E0_8 := Lib.hid (E0_7.out.below hb E0_7.out.lt)
  have B8 := Lib.hid (B7.out.trans (hb.mono B7.out.size))
  clear hb
  go_wp2_with fail
  go_at_call 58
  refine (markJ_any _ gX0 len0 len0 z0 _ HL0.out h0 (by omega) (by omega) X0_8.out).mono ?_
  rintro e w9 ⟨rfl, ht⟩
  have B9 := Lib.hid (B8.out.trans (ht.below ge_X0 B8.out.size))
  clear ht
  go_wp2_with fail
  go_at_call 25
  refine (eqInt64S_any _ _ _ _ _ _ [] [] _ rfl rfl (.inl rfl) (.inl rfl) (by first | omega | simp) (by first | omega | simp)).mono ?_
  rintro e w10 ⟨rfl, hd⟩
  rw [eqB_self]
  have hb : Below w9.heap.size w9 w10 := hd.below
  have B10 := Lib.hid (B9.out.trans (hb.mono B9.out.size))
  clear hb hd
  go_wp2_with fail
  go_at_call 25
  refine (eqInt64S_any _ _ _ _ _ _ [] [] _ rfl rfl (.inl rfl) (.inl rfl) (by first | omega | simp) (by first | omega | simp)).mono ?_
  rintro e w11 ⟨rfl, hd⟩
  rw [eqB_self]
  have hb : Below w10.heap.size w10 w11 := hd.below
  have B11 := Lib.hid (B10.out.trans (hb.mono B10.out.size))
  clear hb hd
  go_wp2_with fail
  go_at_call 39
  refine (mark_nil _ _ _ _).mono ?_
  rintro e w' ⟨rfl, rfl⟩
  go_wp2_with fail
  go_at_call 39
  refine (mark_nil _ _ _ _).mono ?_
  rintro e w' ⟨rfl, rfl⟩
  go_wp2_with fail
  go_at_call 40
  refine (held_nil _ _ _ _).mono ?_
  rintro e w' ⟨rfl, rfl⟩
  go_wp2_with fail
  go_at_call 40
  refine (held_nil _ _ _ _).mono ?_
  rintro e w' ⟨rfl, rfl⟩
  go_wp2_with fail
  go_at_call 28
  refine (toJobS_any a0 len0 cap0 z0 _ (W0.out.below B11.out) h0).mono ?_
  rintro e w12 ⟨gT0, rfl, hr, hg, hb⟩
  rw [HL0.out]
  have B12 := Lib.hid (B11.out.trans (hb.mono B11.out.size))
  have ge_T0 : w.heap.size ≤ gT0 := by have := B11.out.size; omega
  have T0_12 := Lib.hid hr
  clear hr hb hg
  go_wp2_with fail
  go_at_call 60
  refine (implPcB_no _ gT0 len0 len0 z0 HL0.out (Nat.le_refl _) h0 T0_12.out.rd T0_12.out.lt x1 lo1 hi1 HC.out).mono ?_
  rintro e w13 ⟨rfl, hb⟩
  have T0_13 := Lib.hid (T0_12.out.below hb T0_12.out.lt)
  have B13 := Lib.hid (B12.out.trans (hb.mono B12.out.size))
  clear hb
  go_wp2_with fail
  go_at_call 25
  refine (eqInt64S_any _ _ _ _ _ _ [] [] _ rfl rfl (.inl rfl) (.inl rfl) (by first | omega | simp) (by first | omega | simp)).mono ?_
  rintro e w14 ⟨rfl, hd⟩
  rw [eqB_self]
  have hb : Below w13.heap.size w13 w14 := hd.below
  have T0_14 := Lib.hid (T0_13.out.below hb T0_13.out.lt)
  have B14 := Lib.hid (B13.out.trans (hb.mono B13.out.size))
  clear hb hd
  go_wp2_with fail
  go_at_call 25
  refine (eqInt64S_any _ _ _ _ _ _ [] [] _ rfl rfl (.inl rfl) (.inl rfl) (by first | omega | simp) (by first | omega | simp)).mono ?_
  rintro e w15 ⟨rfl, hd⟩
  rw [eqB_self]
  have hb : Below w14.heap.size w14 w15 := hd.below
  have T0_15 := Lib.hid (T0_14.out.below hb T0_14.out.lt)
  have B15 := Lib.hid (B14.out.trans (hb.mono B14.out.size))
  clear hb hd
  go_wp2_with fail
  go_at_call 40
  refine (held_nil _ _ _ _).mono ?_
  rintro e w' ⟨rfl, rfl⟩
  go_wp2_with fail
  go_at_call 40
  refine (held_nil _ _ _ _).mono ?_
  rintro e w' ⟨rfl, rfl⟩
  go_wp2
  go_ret
  exact ⟨rfl, B15.out⟩

set_option maxHeartbeats 8000000 in
set_option maxRecDepth 100000 in
theorem pieceEnds_walk_yes (a0 : Option Addr) (len0 cap0 : Nat) (z0 : List J) (x1 : Int) (w : World) (w0 : IsJobs w a0 len0 z0 ∧ len0 ≤ maxLen) (wf1 : (Lit.int .i64 x1).wf = true) (h0 : len0 ≤ 1048576) (hc : pcB z0 x1 = true) :
    Calls Try.prog 17 #[.slice a0 len0 cap0, .int .i64 x1] w fun e w' => e = .returned (.bool true) ∧ Below w.heap.size w w' := by
  obtain ⟨w0, hlen0⟩ := w0
  have W0 := Lib.hid w0; clear w0
  have HL0 := Lib.hid W0.out.1
  unfold maxLen at hlen0
  have bd1 : -9223372036854775808 ≤ x1 ∧ x1 ≤ 9223372036854775807 := by simpa [Lit.wf, IntKind.min, IntKind.max, IntKind.signed, IntKind.bits] using wf1
  obtain ⟨lo1, hi1⟩ := bd1
  clear wf1
  have hbdl0 := pcE_len1 hc
  obtain ⟨m0, hm0⟩ : ∃ m, (pcE z0 x1).length = m := ⟨_, rfl⟩
  rw [hm0] at hbdl0
  have HR0 := Lib.hid hm0; clear hm0
  obtain ⟨LL0, hLL0⟩ : ∃ l, pcE z0 x1 = l := ⟨_, rfl⟩
  have HLL0 := Lib.hid hLL0; clear hLL0
  have HRL0 : Hid (LL0.length = m0) := Lib.hid (by rw [← HLL0.out]; exact HR0.out)
  have hbdl1 := pcP_len1 hc
  obtain ⟨m1, hm1⟩ : ∃ m, (pcP z0 x1).length = m := ⟨_, rfl⟩
  rw [hm1] at hbdl1
  have HR1 := Lib.hid hm1; clear hm1
  obtain ⟨LL1, hLL1⟩ : ∃ l, pcP z0 x1 = l := ⟨_, rfl⟩
  have HLL1 := Lib.hid hLL1; clear hLL1
  have HRL1 : Hid (LL1.length = m1) := Lib.hid (by rw [← HLL1.out]; exact HR1.out)
  have HC := Lib.hid hc; clear hc
  have hz0 : szV (1048576) len0 = 1048576 - len0 := by unfold szV; rw [if_neg (by omega)]
  have HZ0 := Lib.hid hz0; clear hz0
  go_enter Try.func17, Try.ntmps17
  go_wp2_with fail
  go_at_call 26
  refine (szJobS_any _ _ _ _ _ (by omega) (by omega) (by omega)).mono ?_
  rintro e w' ⟨rfl, rfl⟩
  rw [HZ0.out]
  have B0 := Lib.hid (Below.refl w.heap.size w)
  go_wp2_with fail
  go_at_call 28
  refine (toJobS_any a0 len0 cap0 z0 _ (W0.out.below B0.out) h0).mono ?_
  rintro e w1 ⟨gS0, rfl, hr, hg, hb⟩
  rw [HL0.out]
  have B1 := Lib.hid (B0.out.trans (hb.mono B0.out.size))
  have ge_S0 : w.heap.size ≤ gS0 := by have := B0.out.size; omega
  have S0_1 := Lib.hid hr
  clear hr hb hg
  go_wp2_with fail
  go_at_call 59
  refine (specPcB_yes _ gS0 len0 len0 z0 HL0.out (Nat.le_refl _) h0 S0_1.out.rd S0_1.out.lt x1 lo1 hi1 HC.out).mono ?_
  rintro e w2 ⟨gV0, cV0, gV1, cV1, rfl, hr0, hr1, hg0, hg1, hne, hb⟩
  rw [HLL0.out] at hr0
  rw [HLL1.out] at hr1
  rw [HR0.out, HR1.out]
  have S0_2 := Lib.hid (S0_1.out.below hb S0_1.out.lt)
  have B2 := Lib.hid (B1.out.trans (hb.mono B1.out.size))
  have ne_V0_S0 : gV0 ≠ gS0 := by have := S0_1.out.lt; omega
  have ge_V0 : w.heap.size ≤ gV0 := by have := B1.out.size; omega
  have V0_2 := Lib.hid hr0
  have ne_V1_S0 : gV1 ≠ gS0 := by have := S0_1.out.lt; omega
  have ne_V1_V0 : gV1 ≠ gV0 := hne
  have ge_V1 : w.heap.size ≤ gV1 := by have := B1.out.size; omega
  have V1_2 := Lib.hid hr1
  clear hb hr0 hg0 hr1 hg1
  go_wp2_with fail
  go_at_call 28
  refine (toJobS_any a0 len0 cap0 z0 _ (W0.out.below B2.out) h0).mono ?_
  rintro e w3 ⟨gX0, rfl, hr, hg, hb⟩
  rw [HL0.out]
  have V0_3 := Lib.hid (V0_2.out.below hb V0_2.out.lt)
  have V1_3 := Lib.hid (V1_2.out.below hb V1_2.out.lt)
  have B3 := Lib.hid (B2.out.trans (hb.mono B2.out.size))
  have ne_X0_V0 : gX0 ≠ gV0 := by have := V0_2.out.lt; omega
  have ne_X0_V1 : gX0 ≠ gV1 := by have := V1_2.out.lt; omega
  have ge_X0 : w.heap.size ≤ gX0 := by have := B2.out.size; omega
  have X0_3 := Lib.hid hr
  clear hr hb hg
  go_wp2_with fail
  go_at_call 60
  refine (implPcB_yes _ gX0 len0 len0 z0 HL0.out (Nat.le_refl _) h0 X0_3.out.rd X0_3.out.lt x1 lo1 hi1 HC.out).mono ?_
  rintro e w4 ⟨gG0, cG0, gG1, cG1, rfl, hr0, hr1, hg0, hg1, hne, hb⟩
  rw [HLL0.out] at hr0
  rw [HLL1.out] at hr1
  rw [HR0.out, HR1.out]
  have V0_4 := Lib.hid (V0_3.out.below hb V0_3.out.lt)
  have V1_4 := Lib.hid (V1_3.out.below hb V1_3.out.lt)
  have X0_4 := Lib.hid (X0_3.out.below hb X0_3.out.lt)
  have B4 := Lib.hid (B3.out.trans (hb.mono B3.out.size))
  have ne_G0_V0 : gG0 ≠ gV0 := by have := V0_3.out.lt; omega
  have ne_G0_V1 : gG0 ≠ gV1 := by have := V1_3.out.lt; omega
  have ne_G0_X0 : gG0 ≠ gX0 := by have := X0_3.out.lt; omega
  have ge_G0 : w.heap.size ≤ gG0 := by have := B3.out.size; omega
  have G0_4 := Lib.hid hr0
  have ne_G1_V0 : gG1 ≠ gV0 := by have := V0_3.out.lt; omega
  have ne_G1_V1 : gG1 ≠ gV1 := by have := V1_3.out.lt; omega
  have ne_G1_X0 : gG1 ≠ gX0 := by have := X0_3.out.lt; omega
  have ne_G1_G0 : gG1 ≠ gG0 := hne
  have ge_G1 : w.heap.size ≤ gG1 := by have := B3.out.size; omega
  have G1_4 := Lib.hid hr1
  clear hb hr0 hg0 hr1 hg1
  go_wp2_with fail
  go_at_call 25
  refine (eqInt64S_any _ _ _ _ _ _ LL0 LL0 _ HRL0.out HRL0.out G0_4.out.at' V0_4.out.at' (by first | omega | simp) (by first | omega | simp)).mono ?_
  rintro e w5 ⟨rfl, hd⟩
  rw [eqB_self]
  have hb : Below w4.heap.size w4 w5 := hd.below
  have V0_5 := Lib.hid (V0_4.out.below hb V0_4.out.lt)
  have V1_5 := Lib.hid (V1_4.out.below hb V1_4.out.lt)
  have X0_5 := Lib.hid (X0_4.out.below hb X0_4.out.lt)
  have G0_5 := Lib.hid (G0_4.out.below hb G0_4.out.lt)
  have G1_5 := Lib.hid (G1_4.out.below hb G1_4.out.lt)
  have B5 := Lib.hid (B4.out.trans (hb.mono B4.out.size))
  clear hb hd
  go_wp2_with fail
  go_at_call 25
  refine (eqInt64S_any _ _ _ _ _ _ LL1 LL1 _ HRL1.out HRL1.out G1_5.out.at' V1_5.out.at' (by first | omega | simp) (by first | omega | simp)).mono ?_
  rintro e w6 ⟨rfl, hd⟩
  rw [eqB_self]
  have hb : Below w5.heap.size w5 w6 := hd.below
  have V0_6 := Lib.hid (V0_5.out.below hb V0_5.out.lt)
  have V1_6 := Lib.hid (V1_5.out.below hb V1_5.out.lt)
  have X0_6 := Lib.hid (X0_5.out.below hb X0_5.out.lt)
  have G0_6 := Lib.hid (G0_5.out.below hb G0_5.out.lt)
  have G1_6 := Lib.hid (G1_5.out.below hb G1_5.out.lt)
  have B6 := Lib.hid (B5.out.trans (hb.mono B5.out.size))
  clear hb hd
  go_wp2_with fail
  go_at_call 28
  refine (toJobS_any a0 len0 cap0 z0 _ (W0.out.below B6.out) h0).mono ?_
  rintro e w7 ⟨gE0, rfl, hr, hg, hb⟩
  rw [HL0.out]
  have V0_7 := Lib.hid (V0_6.out.below hb V0_6.out.lt)
  have V1_7 := Lib.hid (V1_6.out.below hb V1_6.out.lt)
  have X0_7 := Lib.hid (X0_6.out.below hb X0_6.out.lt)
  have G0_7 := Lib.hid (G0_6.out.below hb G0_6.out.lt)
  have G1_7 := Lib.hid (G1_6.out.below hb G1_6.out.lt)
  have B7 := Lib.hid (B6.out.trans (hb.mono B6.out.size))
  have ne_E0_V0 : gE0 ≠ gV0 := by have := V0_6.out.lt; omega
  have ne_E0_V1 : gE0 ≠ gV1 := by have := V1_6.out.lt; omega
  have ne_E0_X0 : gE0 ≠ gX0 := by have := X0_6.out.lt; omega
  have ne_E0_G0 : gE0 ≠ gG0 := by have := G0_6.out.lt; omega
  have ne_E0_G1 : gE0 ≠ gG1 := by have := G1_6.out.lt; omega
  have ge_E0 : w.heap.size ≤ gE0 := by have := B6.out.size; omega
  have E0_7 := Lib.hid hr
  clear hr hb hg
  go_wp2_with fail
  go_at_call 30
  refine (eqJobS_any _ _ len0 len0 len0 len0 z0 z0 _ HL0.out HL0.out X0_7.out.at' E0_7.out.at' h0 h0).mono ?_
  rintro e w8 ⟨rfl, hb⟩
  rw [eqJs_self]
  have V0_8 := Lib.hid (V0_7.out.below hb V0_7.out.lt)
  have V1_8 := Lib.hid (V1_7.out.below hb V1_7.out.lt)
  have X0_8 := Lib.hid (X0_7.out.below hb X0_7.out.lt)
  have G0_8 := Lib.hid (G0_7.out.below hb G0_7.out.lt)
  have G1_8 := Lib.hid (G1_7.out.below hb G1_7.out.lt)
  have E0_8 := Lib.hid (E0_7.out.below hb E0_7.out.lt)
  have B8 := Lib.hid (B7.out.trans (hb.mono B7.out.size))
  clear hb
  go_wp2_with fail
  go_at_call 58
  refine (markJ_any _ gX0 len0 len0 z0 _ HL0.out h0 (by omega) (by omega) X0_8.out).mono ?_
  rintro e w9 ⟨rfl, ht⟩
  have V0_9 := Lib.hid (V0_8.out.touch ht (Ne.symm ne_X0_V0))
  have V1_9 := Lib.hid (V1_8.out.touch ht (Ne.symm ne_X0_V1))
  have G0_9 := Lib.hid (G0_8.out.touch ht ne_G0_X0)
  have G1_9 := Lib.hid (G1_8.out.touch ht ne_G1_X0)
  have B9 := Lib.hid (B8.out.trans (ht.below ge_X0 B8.out.size))
  clear ht
  go_wp2_with fail
  go_at_call 25
  refine (eqInt64S_any _ _ _ _ _ _ LL0 LL0 _ HRL0.out HRL0.out G0_9.out.at' V0_9.out.at' (by first | omega | simp) (by first | omega | simp)).mono ?_
  rintro e w10 ⟨rfl, hd⟩
  rw [eqB_self]
  have hb : Below w9.heap.size w9 w10 := hd.below
  have V0_10 := Lib.hid (V0_9.out.below hb V0_9.out.lt)
  have V1_10 := Lib.hid (V1_9.out.below hb V1_9.out.lt)
  have G0_10 := Lib.hid (G0_9.out.below hb G0_9.out.lt)
  have G1_10 := Lib.hid (G1_9.out.below hb G1_9.out.lt)
  have B10 := Lib.hid (B9.out.trans (hb.mono B9.out.size))
  clear hb hd
  go_wp2_with fail
  go_at_call 25
  refine (eqInt64S_any _ _ _ _ _ _ LL1 LL1 _ HRL1.out HRL1.out G1_10.out.at' V1_10.out.at' (by first | omega | simp) (by first | omega | simp)).mono ?_
  rintro e w11 ⟨rfl, hd⟩
  rw [eqB_self]
  have hb : Below w10.heap.size w10 w11 := hd.below
  have V0_11 := Lib.hid (V0_10.out.below hb V0_10.out.lt)
  have V1_11 := Lib.hid (V1_10.out.below hb V1_10.out.lt)
  have G0_11 := Lib.hid (G0_10.out.below hb G0_10.out.lt)
  have G1_11 := Lib.hid (G1_10.out.below hb G1_10.out.lt)
  have B11 := Lib.hid (B10.out.trans (hb.mono B10.out.size))
  clear hb hd
  go_wp2_with fail
  go_at_call 39
  refine (mark_any _ gG0 m0 cG0 LL0 _ HRL0.out (by omega) (by omega) (by omega) G0_11.out).mono ?_
  rintro e w12 ⟨rfl, hmk, ht⟩
  have V0_12 := Lib.hid (V0_11.out.touch ht (Ne.symm ne_G0_V0))
  have V1_12 := Lib.hid (V1_11.out.touch ht (Ne.symm ne_G0_V1))
  have G1_12 := Lib.hid (G1_11.out.touch ht ne_G1_G0)
  have B12 := Lib.hid (B11.out.trans (ht.below ge_G0 B11.out.size))
  have G0_12 := Lib.hid hmk
  clear ht hmk
  go_wp2_with fail
  go_at_call 39
  refine (mark_any _ gG1 m1 cG1 LL1 _ HRL1.out (by omega) (by omega) (by omega) G1_12.out).mono ?_
  rintro e w13 ⟨rfl, hmk, ht⟩
  have V0_13 := Lib.hid (V0_12.out.touch ht (Ne.symm ne_G1_V0))
  have V1_13 := Lib.hid (V1_12.out.touch ht (Ne.symm ne_G1_V1))
  have G0_13 := Lib.hid (G0_12.out.touch ht (Ne.symm ne_G1_G0))
  have B13 := Lib.hid (B12.out.trans (ht.below ge_G1 B12.out.size))
  have G1_13 := Lib.hid hmk
  clear ht hmk
  go_wp2_with fail
  go_at_call 40
  refine (held_any _ gG0 m0 cG0 _ (by omega) (by omega) (by omega) (G0_13.out.rd)).mono ?_
  rintro e w' ⟨rfl, rfl⟩
  go_wp2_with fail
  go_at_call 40
  refine (held_any _ gG1 m1 cG1 _ (by omega) (by omega) (by omega) (G1_13.out.rd)).mono ?_
  rintro e w' ⟨rfl, rfl⟩
  go_wp2_with fail
  go_at_call 28
  refine (toJobS_any a0 len0 cap0 z0 _ (W0.out.below B13.out) h0).mono ?_
  rintro e w14 ⟨gT0, rfl, hr, hg, hb⟩
  rw [HL0.out]
  have V0_14 := Lib.hid (V0_13.out.below hb V0_13.out.lt)
  have V1_14 := Lib.hid (V1_13.out.below hb V1_13.out.lt)
  have G0_14 := Lib.hid (G0_13.out.below hb G0_13.out.lt)
  have G1_14 := Lib.hid (G1_13.out.below hb G1_13.out.lt)
  have B14 := Lib.hid (B13.out.trans (hb.mono B13.out.size))
  have ne_T0_V0 : gT0 ≠ gV0 := by have := V0_13.out.lt; omega
  have ne_T0_V1 : gT0 ≠ gV1 := by have := V1_13.out.lt; omega
  have ne_T0_G0 : gT0 ≠ gG0 := by have := G0_13.out.lt; omega
  have ne_T0_G1 : gT0 ≠ gG1 := by have := G1_13.out.lt; omega
  have ge_T0 : w.heap.size ≤ gT0 := by have := B13.out.size; omega
  have T0_14 := Lib.hid hr
  clear hr hb hg
  go_wp2_with fail
  go_at_call 60
  refine (implPcB_yes _ gT0 len0 len0 z0 HL0.out (Nat.le_refl _) h0 T0_14.out.rd T0_14.out.lt x1 lo1 hi1 HC.out).mono ?_
  rintro e w15 ⟨gH0, cH0, gH1, cH1, rfl, hr0, hr1, hg0, hg1, hne, hb⟩
  rw [HLL0.out] at hr0
  rw [HLL1.out] at hr1
  rw [HR0.out, HR1.out]
  have V0_15 := Lib.hid (V0_14.out.below hb V0_14.out.lt)
  have V1_15 := Lib.hid (V1_14.out.below hb V1_14.out.lt)
  have G0_15 := Lib.hid (G0_14.out.below hb G0_14.out.lt)
  have G1_15 := Lib.hid (G1_14.out.below hb G1_14.out.lt)
  have T0_15 := Lib.hid (T0_14.out.below hb T0_14.out.lt)
  have B15 := Lib.hid (B14.out.trans (hb.mono B14.out.size))
  have ne_H0_V0 : gH0 ≠ gV0 := by have := V0_14.out.lt; omega
  have ne_H0_V1 : gH0 ≠ gV1 := by have := V1_14.out.lt; omega
  have ne_H0_G0 : gH0 ≠ gG0 := by have := G0_14.out.lt; omega
  have ne_H0_G1 : gH0 ≠ gG1 := by have := G1_14.out.lt; omega
  have ne_H0_T0 : gH0 ≠ gT0 := by have := T0_14.out.lt; omega
  have ge_H0 : w.heap.size ≤ gH0 := by have := B14.out.size; omega
  have H0_15 := Lib.hid hr0
  have ne_H1_V0 : gH1 ≠ gV0 := by have := V0_14.out.lt; omega
  have ne_H1_V1 : gH1 ≠ gV1 := by have := V1_14.out.lt; omega
  have ne_H1_G0 : gH1 ≠ gG0 := by have := G0_14.out.lt; omega
  have ne_H1_G1 : gH1 ≠ gG1 := by have := G1_14.out.lt; omega
  have ne_H1_T0 : gH1 ≠ gT0 := by have := T0_14.out.lt; omega
  have ne_H1_H0 : gH1 ≠ gH0 := hne
  have ge_H1 : w.heap.size ≤ gH1 := by have := B14.out.size; omega
  have H1_15 := Lib.hid hr1
  clear hb hr0 hg0 hr1 hg1
  go_wp2_with fail
  go_at_call 25
  refine (eqInt64S_any _ _ _ _ _ _ LL0 LL0 _ HRL0.out HRL0.out H0_15.out.at' V0_15.out.at' (by first | omega | simp) (by first | omega | simp)).mono ?_
  rintro e w16 ⟨rfl, hd⟩
  rw [eqB_self]
  have hb : Below w15.heap.size w15 w16 := hd.below
  have V0_16 := Lib.hid (V0_15.out.below hb V0_15.out.lt)
  have V1_16 := Lib.hid (V1_15.out.below hb V1_15.out.lt)
  have G0_16 := Lib.hid (G0_15.out.below hb G0_15.out.lt)
  have G1_16 := Lib.hid (G1_15.out.below hb G1_15.out.lt)
  have T0_16 := Lib.hid (T0_15.out.below hb T0_15.out.lt)
  have H0_16 := Lib.hid (H0_15.out.below hb H0_15.out.lt)
  have H1_16 := Lib.hid (H1_15.out.below hb H1_15.out.lt)
  have B16 := Lib.hid (B15.out.trans (hb.mono B15.out.size))
  clear hb hd
  go_wp2_with fail
  go_at_call 25
  refine (eqInt64S_any _ _ _ _ _ _ LL1 LL1 _ HRL1.out HRL1.out H1_16.out.at' V1_16.out.at' (by first | omega | simp) (by first | omega | simp)).mono ?_
  rintro e w17 ⟨rfl, hd⟩
  rw [eqB_self]
  have hb : Below w16.heap.size w16 w17 := hd.below
  have V0_17 := Lib.hid (V0_16.out.below hb V0_16.out.lt)
  have V1_17 := Lib.hid (V1_16.out.below hb V1_16.out.lt)
  have G0_17 := Lib.hid (G0_16.out.below hb G0_16.out.lt)
  have G1_17 := Lib.hid (G1_16.out.below hb G1_16.out.lt)
  have T0_17 := Lib.hid (T0_16.out.below hb T0_16.out.lt)
  have H0_17 := Lib.hid (H0_16.out.below hb H0_16.out.lt)
  have H1_17 := Lib.hid (H1_16.out.below hb H1_16.out.lt)
  have B17 := Lib.hid (B16.out.trans (hb.mono B16.out.size))
  clear hb hd
  go_wp2_with fail
  go_at_call 40
  refine (held_any _ gG0 m0 cG0 _ (by omega) (by omega) (by omega) (G0_17.out.rd)).mono ?_
  rintro e w' ⟨rfl, rfl⟩
  go_wp2_with fail
  go_at_call 40
  refine (held_any _ gG1 m1 cG1 _ (by omega) (by omega) (by omega) (G1_17.out.rd)).mono ?_
  rintro e w' ⟨rfl, rfl⟩
  go_wp2
  go_ret
  exact ⟨rfl, B17.out⟩

set_option maxHeartbeats 4000000 in
theorem pieceEnds_walk (a0 : Option Addr) (len0 cap0 : Nat) (z0 : List J) (x1 : Int) (w : World) (w0 : IsJobs w a0 len0 z0 ∧ len0 ≤ maxLen) (wf1 : (Lit.int .i64 x1).wf = true) :
    Calls Try.prog 17 #[.slice a0 len0 cap0, .int .i64 x1] w fun e w' => e = .returned (.bool true) ∧ Below w.heap.size w w' := by
  by_cases hs0 : len0 ≤ 1048576
  case neg =>
    have hz0 : szV (1048576) len0 = -1 := by unfold szV; rw [if_pos (by omega)]
    have HZ0 := Lib.hid hz0; clear hz0
    have hlen0 := w0.2; unfold maxLen at hlen0
    clear w0
    go_enter Try.func17, Try.ntmps17
    go_wp2_with fail
    go_at_call 26
    refine (szJobS_any _ _ _ _ _ (by omega) (by omega) (by omega)).mono ?_
    rintro e w' ⟨rfl, rfl⟩
    rw [HZ0.out]
    go_wp2
    go_ret
    exact ⟨rfl, .refl _ _⟩
  have hz0 : szV (1048576) len0 = 1048576 - len0 := by unfold szV; rw [if_neg (by omega)]
  have HZ0 := Lib.hid hz0; clear hz0
  have h0 : len0 ≤ 1048576 := by omega
  cases hc : pcB z0 x1
  · exact pieceEnds_walk_no a0 len0 cap0 z0 x1 w w0 wf1 h0 hc
  · exact pieceEnds_walk_yes a0 len0 cap0 z0 x1 w w0 wf1 h0 hc

end Go.Proofs.Ytncmhinpjkkfkaa
