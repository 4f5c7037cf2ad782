/-
  Walks: the law CostOf. Conditions: none.
-/
import Derived.Test.YtncmhinpjkkfkaaK11
set_option linter.unusedVariables false
set_option linter.unusedSimpArgs false
namespace Go.Proofs.Ytncmhinpjkkfkaa
open Go Go.RowKit

def cstB (js : List J) (xs : List Int) (kind : Int) : Bool := canB js xs && inB kind 0 4
def cstV (js : List J) (xs : List Int) (kind : Int) : Int := if cstB js xs kind then costV js xs kind else 0

set_option maxHeartbeats 2000000 in
set_option maxRecDepth 100000 in
theorem specCostOf (w : World) (g n c : Nat) (js : List J) (hn : js.length = n) (hcap : n ≤ c) (hm : n ≤ 1048576) (hj : JRd w g 0 js) (hg : g < w.heap.size) (g' n' c' : Nat) (xs : List Int) (hn' : xs.length = n') (hcap' : n' ≤ c') (hm' : n' ≤ 1048576) (hx : Rd w g' 0 xs) (hg' : g' < w.heap.size) (kind : Int) (lo : -9223372036854775808 ≤ kind) (hi : kind ≤ 9223372036854775807) :
    Calls Try.prog 61 #[.slice (some ⟨g, 0, none⟩) n c, .slice (some ⟨g', 0, none⟩) n' c', .int .i64 kind] w fun e w' => e = .returned (.tuple #[.int .i64 (cstV js xs kind), .bool (cstB js xs kind)]) ∧ Below w.heap.size w w' := by
  have HN := Lib.hid hn; have HN' := Lib.hid hn'; have HJ := Lib.hid hj; have HX := Lib.hid hx
  clear hn hn' hj hx
  cases hc : canB js xs
  · have e1 : cstV js xs kind = 0 := by unfold cstV cstB; rw [hc]; rfl
    have e2 : cstB js xs kind = false := by unfold cstB; rw [hc]; rfl
    rw [e1, e2]
    clear e1 e2
    go_enter Try.func61, Try.ntmps61
    go_wp2_with (go_at_call 106; refine (specCan_any _ g n c js HN.out hcap hm HJ.out g' n' c' xs HN'.out hcap' hm' HX.out).mono ?_; rintro e w1 ⟨rfl, hd⟩; rw [hc]; have hb : Below w.heap.size w w1 := hd.below; have hj1 := HJ.out.below hb hg; have hx1 := HX.out.below hb hg'; have J1 := Lib.hid hj1; have X1 := Lib.hid hx1; clear hj1 hx1)
    go_ret2
    exact ⟨rfl, hb⟩
  · cases hk : inB kind 0 4
    · have e1 : cstV js xs kind = 0 := by unfold cstV cstB; rw [hc, hk]; rfl
      have e2 : cstB js xs kind = false := by unfold cstB; rw [hc, hk]; rfl
      rw [e1, e2]
      clear e1 e2
      go_enter Try.func61, Try.ntmps61
      go_wp2_with (first
        | (go_at_call 106; refine (specCan_any _ g n c js HN.out hcap hm HJ.out g' n' c' xs HN'.out hcap' hm' HX.out).mono ?_; rintro e w1 ⟨rfl, hd⟩; rw [hc]; have hb : Below w.heap.size w w1 := hd.below; have hj1 := HJ.out.below hb hg; have hx1 := HX.out.below hb hg'; have J1 := Lib.hid hj1; have X1 := Lib.hid hx1; clear hj1 hx1)
        | (go_at_call 69; refine (l00In_any _ _ _ _).mono ?_; rintro e w2 ⟨rfl, rfl⟩; rw [hk]))
      go_ret2
      exact ⟨rfl, hb⟩
    · have e1 : cstV js xs kind = costV js xs kind := by unfold cstV cstB; rw [hc, hk]; rfl
      have e2 : cstB js xs kind = true := by unfold cstB; rw [hc, hk]; rfl
      obtain ⟨k0, k1⟩ := inB_lo hk
      rw [e1, e2]
      clear e1 e2
      go_enter Try.func61, Try.ntmps61
      go_wp2_with (first
        | (go_at_call 106; refine (specCan_any _ g n c js HN.out hcap hm HJ.out g' n' c' xs HN'.out hcap' hm' HX.out).mono ?_; rintro e w1 ⟨rfl, hd⟩; rw [hc]; have hb : Below w.heap.size w w1 := hd.below; have hj1 := HJ.out.below hb hg; have hx1 := HX.out.below hb hg'; have J1 := Lib.hid hj1; have X1 := Lib.hid hx1; clear hj1 hx1)
        | (go_at_call 69; refine (l00In_any _ _ _ _).mono ?_; rintro e w2 ⟨rfl, rfl⟩; rw [hk])
        | (go_at_call 110; refine (l02Cost_any _ g n c js HN.out J1.out (by have := hb.size; omega) g' n' c' xs HN'.out X1.out (by have := hb.size; omega) hc kind k0 k1).mono ?_; rintro e w3 ⟨rfl, hb3⟩))
      go_ret2
      exact ⟨rfl, hb.trans (hb3.mono hb.size)⟩

set_option maxHeartbeats 2000000 in
set_option maxRecDepth 100000 in
theorem implCostOf (w : World) (g n c : Nat) (js : List J) (hn : js.length = n) (hcap : n ≤ c) (hm : n ≤ 1048576) (hj : JRd w g 0 js) (hg : g < w.heap.size) (g' n' c' : Nat) (xs : List Int) (hn' : xs.length = n') (hcap' : n' ≤ c') (hm' : n' ≤ 1048576) (hx : Rd w g' 0 xs) (hg' : g' < w.heap.size) (kind : Int) (lo : -9223372036854775808 ≤ kind) (hi : kind ≤ 9223372036854775807) :
    Calls Try.prog 62 #[.slice (some ⟨g, 0, none⟩) n c, .slice (some ⟨g', 0, none⟩) n' c', .int .i64 kind] w fun e w' => e = .returned (.tuple #[.int .i64 (cstV js xs kind), .bool (cstB js xs kind)]) ∧ Below w.heap.size w w' := by
  have HN := Lib.hid hn; have HN' := Lib.hid hn'; have HJ := Lib.hid hj; have HX := Lib.hid hx
  clear hn hn' hj hx
  cases hc : canB js xs
  · have e1 : cstV js xs kind = 0 := by unfold cstV cstB; rw [hc]; rfl
    have e2 : cstB js xs kind = false := by unfold cstB; rw [hc]; rfl
    rw [e1, e2]
    clear e1 e2
    go_enter Try.func62, Try.ntmps62
    go_wp2_with (go_at_call 108; refine (implOrders_any _ g n c js HN.out hm HJ.out hg g' n' c' xs HN'.out hm' HX.out hg').mono ?_; rintro e w1 ⟨rfl, hb⟩; rw [hc]; have hj1 := HJ.out.below hb hg; have hx1 := HX.out.below hb hg'; have J1 := Lib.hid hj1; have X1 := Lib.hid hx1; clear hj1 hx1)
    go_ret2
    exact ⟨rfl, hb⟩
  · cases hk : inB kind 0 4
    · have e1 : cstV js xs kind = 0 := by unfold cstV cstB; rw [hc, hk]; rfl
      have e2 : cstB js xs kind = false := by unfold cstB; rw [hc, hk]; rfl
      rw [e1, e2]
      clear e1 e2
      go_enter Try.func62, Try.ntmps62
      go_wp2_with (first
        | (go_at_call 108; refine (implOrders_any _ g n c js HN.out hm HJ.out hg g' n' c' xs HN'.out hm' HX.out hg').mono ?_; rintro e w1 ⟨rfl, hb⟩; rw [hc]; have hj1 := HJ.out.below hb hg; have hx1 := HX.out.below hb hg'; have J1 := Lib.hid hj1; have X1 := Lib.hid hx1; clear hj1 hx1)
        | (go_at_call 71; refine (within_any _ _ _ _).mono ?_; rintro e w2 ⟨rfl, rfl⟩; rw [hk]))
      go_ret2
      exact ⟨rfl, hb⟩
    · have e1 : cstV js xs kind = costV js xs kind := by unfold cstV cstB; rw [hc, hk]; rfl
      have e2 : cstB js xs kind = true := by unfold cstB; rw [hc, hk]; rfl
      obtain ⟨k0, k1⟩ := inB_lo hk
      obtain ⟨hjb, _, _⟩ := canB_of hc
      obtain ⟨m1, m2, hjs⟩ := jobsB_of hjb
      rw [HN.out] at m1 m2
      have HM := Lib.hid (endsL_mem hc)
      have HES : Hid ((endsL js xs).length = n) := Lib.hid (endsL_length.trans HN.out)
      have HF : Hid (costK js (endsL js xs) kind (n - 1) = costV js xs kind) := Lib.hid (by unfold costV; rw [HN.out])
      have HJS : Hid (∀ i (hi : i < js.length), JOk js[i]) := Lib.hid hjs
      clear hjs hjb
      rw [e1, e2]
      clear e1 e2
      go_enter Try.func62, Try.ntmps62
      go_wp2_with (first
        | (go_at_call 108; refine (implOrders_any _ g n c js HN.out hm HJ.out hg g' n' c' xs HN'.out hm' HX.out hg').mono ?_; rintro e w1 ⟨rfl, hb⟩; rw [hc]; have hj1 := HJ.out.below hb hg; have hx1 := HX.out.below hb hg'; have J1 := Lib.hid hj1; have X1 := Lib.hid hx1; clear hj1 hx1)
        | (go_at_call 71; refine (within_any _ _ _ _).mono ?_; rintro e w2 ⟨rfl, rfl⟩; rw [hk])
        | (go_at_call 109; refine (implEnds_any _ g n c js HN.out J1.out (by have := hb.size; omega) g' n' c' xs HN'.out X1.out (by have := hb.size; omega) hc).mono ?_; rintro e w3 ⟨G, rfl, hr, hG, hb3⟩; rw [HES.out]; rw [HES.out] at hr; have R := Lib.hid hr; have J2 := Lib.hid (J1.out.below hb3 (by have := hb.size; omega)); clear hr)
        | (go_at_call 111; refine (implCost_any _ g n c js HN.out J2.out (by have := hb.size; have := hb3.size; omega) G (endsL js xs) HES.out R.out.rd R.out.lt HJS.out HM.out m1 m2 kind k0 k1).mono ?_; rintro e w4 ⟨rfl, hb4⟩; rw [HF.out]))
      go_ret2
      exact ⟨rfl, (hb.trans (hb3.mono hb.size)).trans (hb4.mono (by have := hb.size; have := hb3.size; omega))⟩

set_option maxHeartbeats 4000000 in
set_option maxRecDepth 100000 in
theorem costOf_walk (a0 : Option Addr) (len0 cap0 : Nat) (z0 : List J) (a1 : Option Addr) (len1 cap1 : Nat) (z1 : List Int) (x2 : Int) (w : World) (w0 : IsJobs w a0 len0 z0 ∧ len0 ≤ maxLen) (w1 : IsRow .i64 w a1 len1 cap1 z1) (wf2 : (Lit.int .i64 x2).wf = true) :
    Calls Try.prog 18 #[.slice a0 len0 cap0, .slice a1 len1 cap1, .int .i64 x2] w fun e w' => e = .returned (.bool true) ∧ Below w.heap.size w w' := by
  have hlz1 := w1.len
  have HLm1 : len1 ≤ 9223372036854775807 := by
    have := w1; rcases this with ⟨_, h, _, _⟩ | ⟨_, _, h1, h2, _⟩ <;> simp only [maxLen] at * <;> omega
  have W1 := Lib.hid w1; clear w1
  have HL1 := Lib.hid (take_len hlz1)
  clear hlz1
  obtain ⟨w0, hlen0⟩ := w0
  have W0 := Lib.hid w0; clear w0
  have HL0 := Lib.hid W0.out.1
  unfold maxLen at hlen0
  have bd2 : -9223372036854775808 ≤ x2 ∧ x2 ≤ 9223372036854775807 := by simpa [Lit.wf, IntKind.min, IntKind.max, IntKind.signed, IntKind.bits] using wf2
  obtain ⟨lo2, hi2⟩ := bd2
  clear wf2
  by_cases h1 : len1 ≤ 1048576
  case neg =>
    go_enter Try.func18, Try.ntmps18
    go_wp2
    go_ret
    exact ⟨rfl, .refl _ _⟩
  by_cases hs0 : len0 ≤ 1048576
  case neg =>
    have hz0 : szV (1048576) len0 = -1 := by unfold szV; rw [if_pos (by omega)]
    have HZ0 := Lib.hid hz0; clear hz0
    go_enter Try.func18, Try.ntmps18
    go_wp2_with fail
    go_at_call 26
    refine (szJobS_any _ _ _ _ _ (by omega) (by omega) (by omega)).mono ?_
    rintro e w' ⟨rfl, rfl⟩
    rw [HZ0.out]
    go_wp2
    go_ret
    exact ⟨rfl, .refl _ _⟩
  have hz0 : szV (1048576) len0 = 1048576 - len0 := by unfold szV; rw [if_neg (by omega)]
  have HZ0 := Lib.hid hz0; clear hz0
  have h0 : len0 ≤ 1048576 := by omega
  go_enter Try.func18, Try.ntmps18
  go_wp2_with fail
  go_at_call 26
  refine (szJobS_any _ _ _ _ _ (by omega) (by omega) (by omega)).mono ?_
  rintro e w' ⟨rfl, rfl⟩
  rw [HZ0.out]
  have B0 := Lib.hid (Below.refl w.heap.size w)
  go_wp2_with fail
  go_at_call 28
  refine (toJobS_any a0 len0 cap0 z0 _ (W0.out.below B0.out) h0).mono ?_
  rintro e w1 ⟨gS0, rfl, hr, hg, hb⟩
  rw [HL0.out]
  have B1 := Lib.hid (B0.out.trans (hb.mono B0.out.size))
  have S0_1 := Lib.hid hr; clear hr hb hg
  go_wp2_with fail
  go_at_call 23
  refine (toInt64S_any a1 len1 cap1 z1 _ (W1.out.below B1.out) h1).mono ?_
  rintro e w2 ⟨gS1, rfl, hr, hg, hb⟩
  rw [HL1.out] at hr ⊢
  have S0_2 := Lib.hid (S0_1.out.below hb S0_1.out.lt)
  have B2 := Lib.hid (B1.out.trans (hb.mono B1.out.size))
  have S1_2 := Lib.hid hr; clear hr hb hg
  go_wp2_with fail
  go_at_call 61
  refine (specCostOf _ gS0 len0 len0 z0 HL0.out (Nat.le_refl _) h0 S0_2.out.rd S0_2.out.lt gS1 len1 len1 (z1.take len1) HL1.out (Nat.le_refl _) h1 S1_2.out.rd S1_2.out.lt x2 (by omega) (by omega)).mono ?_
  rintro e w3 ⟨rfl, hb⟩
  have S0_3 := Lib.hid (S0_2.out.below hb S0_2.out.lt)
  have S1_3 := Lib.hid (S1_2.out.below hb S1_2.out.lt)
  have B3 := Lib.hid (B2.out.trans (hb.mono B2.out.size))
  clear hb
  go_wp2_with fail
  go_at_call 28
  refine (toJobS_any a0 len0 cap0 z0 _ (W0.out.below B3.out) h0).mono ?_
  rintro e w4 ⟨gX0, rfl, hr, hg, hb⟩
  rw [HL0.out]
  have B4 := Lib.hid (B3.out.trans (hb.mono B3.out.size))
  have X0_4 := Lib.hid hr; clear hr hb hg
  go_wp2_with fail
  go_at_call 23
  refine (toInt64S_any a1 len1 cap1 z1 _ (W1.out.below B4.out) h1).mono ?_
  rintro e w5 ⟨gX1, rfl, hr, hg, hb⟩
  rw [HL1.out] at hr ⊢
  have X0_5 := Lib.hid (X0_4.out.below hb X0_4.out.lt)
  have B5 := Lib.hid (B4.out.trans (hb.mono B4.out.size))
  have X1_5 := Lib.hid hr; clear hr hb hg
  go_wp2_with fail
  go_at_call 62
  refine (implCostOf _ gX0 len0 len0 z0 HL0.out (Nat.le_refl _) h0 X0_5.out.rd X0_5.out.lt gX1 len1 len1 (z1.take len1) HL1.out (Nat.le_refl _) h1 X1_5.out.rd X1_5.out.lt x2 (by omega) (by omega)).mono ?_
  rintro e w6 ⟨rfl, hb⟩
  have X0_6 := Lib.hid (X0_5.out.below hb X0_5.out.lt)
  have X1_6 := Lib.hid (X1_5.out.below hb X1_5.out.lt)
  have B6 := Lib.hid (B5.out.trans (hb.mono B5.out.size))
  clear hb
  go_wp2_with fail
  go_at_call 28
  refine (toJobS_any a0 len0 cap0 z0 _ (W0.out.below B6.out) h0).mono ?_
  rintro e w7 ⟨gE0, rfl, hr, hg, hb⟩
  rw [HL0.out]
  have X0_7 := Lib.hid (X0_6.out.below hb X0_6.out.lt)
  have X1_7 := Lib.hid (X1_6.out.below hb X1_6.out.lt)
  have B7 := Lib.hid (B6.out.trans (hb.mono B6.out.size))
  have E0_7 := Lib.hid hr; clear hr hb hg
  go_wp2_with fail
  go_at_call 30
  refine (eqJobS_any _ _ len0 len0 len0 len0 z0 z0 _ HL0.out HL0.out X0_7.out.at' E0_7.out.at' h0 h0).mono ?_
  rintro e w8 ⟨rfl, hb⟩
  rw [eqJs_self]
  have X0_8 := Lib.hid (X0_7.out.below hb X0_7.out.lt)
  have X1_8 := Lib.hid (X1_7.out.below hb X1_7.out.lt)
  have B8 := Lib.hid (B7.out.trans (hb.mono B7.out.size))
  clear hb
  go_wp2_with fail
  go_at_call 23
  refine (toInt64S_any a1 len1 cap1 z1 _ (W1.out.below B8.out) h1).mono ?_
  rintro e w9 ⟨gE1, rfl, hr, hg, hb⟩
  rw [HL1.out] at hr ⊢
  have X0_9 := Lib.hid (X0_8.out.below hb X0_8.out.lt)
  have X1_9 := Lib.hid (X1_8.out.below hb X1_8.out.lt)
  have B9 := Lib.hid (B8.out.trans (hb.mono B8.out.size))
  have E1_9 := Lib.hid hr; clear hr hb hg
  go_wp2_with fail
  go_at_call 25
  refine (eqInt64S_any _ _ len1 len1 len1 len1 (z1.take len1) (z1.take len1) _ HL1.out HL1.out X1_9.out.at' E1_9.out.at' h1 h1).mono ?_
  rintro e w10 ⟨rfl, hd⟩
  rw [eqB_self]
  have hb : Below w9.heap.size w9 w10 := hd.below
  have X0_10 := Lib.hid (X0_9.out.below hb X0_9.out.lt)
  have X1_10 := Lib.hid (X1_9.out.below hb X1_9.out.lt)
  have B10 := Lib.hid (B9.out.trans (hb.mono B9.out.size))
  clear hb
  go_wp2
  go_ret
  exact ⟨rfl, B10.out⟩

end Go.Proofs.Ytncmhinpjkkfkaa
