/-
  Walks: the law ChangeCost, the two functions. Conditions: none.
-/
import Derived.Test.YtncmhinpjkkfkaaK15
set_option linter.unusedVariables false
set_option linter.unusedSimpArgs false
namespace Go.Proofs.Ytncmhinpjkkfkaa
open Go Go.RowKit

theorem l02Orders_n (w : World) (g n c : Nat) (xs : List Int) (hn : xs.length = n) (hcap : n ≤ c) (hm : n ≤ 1048576) (x : Int) (x0 : 0 ≤ x) (x1 : x ≤ 1048576) (hx : Rd w g 0 xs) :
    Calls Try.prog 70 #[.slice (some ⟨g, 0, none⟩) n c, .int .i64 x] w fun e w' => e = .returned (.bool (ordB xs x xs.length && decide ((xs.length : Int) = x))) ∧ Dr w w' := by
  subst hn; exact l02Orders_any g c xs x w hcap hm x0 x1 hx

set_option maxHeartbeats 4000000 in
set_option maxRecDepth 100000 in
theorem specCC (w : World) (g n c : Nat) (os : List Int) (hn : os.length = n) (hcap : n ≤ c) (hm : n ≤ 1048576) (hx : Rd w g 0 os) (hg : g < w.heap.size) (g' n' c' : Nat) (cs : List Int) (hn' : cs.length = n') (hcap' : n' ≤ c') (hm' : n' ≤ 1048576) (hc : Rd w g' 0 cs) (hg' : g' < w.heap.size) :
    Calls Try.prog 35 #[.slice (some ⟨g, 0, none⟩) n c, .slice (some ⟨g', 0, none⟩) n' c'] w fun e w' => e = .returned (.tuple #[.int .i64 (ccV os cs), .bool (ccB os cs)]) ∧ Below w.heap.size w w' := by
  have HN := Lib.hid hn; have HN' := Lib.hid hn'; have HX := Lib.hid hx; have HC := Lib.hid hc
  cases hb : chB cs n
  · have e2 : ccB os cs = false := by unfold ccB; rw [hn, hb]; rfl
    have e1 : ccV os cs = 0 := by unfold ccV; rw [e2]; rfl
    rw [e1, e2]
    have HB := Lib.hid hb
    clear hn hn' hx hc e1 e2 hb
    go_enter Try.func35, Try.ntmps35
    go_wp2_with (go_at_call 87; refine (l02Changes_any _ g' n' c' cs HN'.out hm' HC.out _).mono ?_; rintro e w' ⟨rfl, rfl⟩; rw [HB.out])
    go_ret2
    exact ⟨rfl, .refl _ _⟩
  have HB := Lib.hid hb
  have ho : (ordB os n os.length && decide ((os.length : Int) = n)) = ordB os os.length os.length := by
    rw [hn, decide_eq_true rfl, Bool.and_true]
  cases hbo : ordB os os.length os.length
  · have e2 : ccB os cs = false := by unfold ccB; rw [hn, hb, ← hn, hbo]; rfl
    have e1 : ccV os cs = 0 := by unfold ccV; rw [e2]; rfl
    rw [e1, e2]
    have HO := Lib.hid (ho.trans hbo)
    clear hn hn' hx hc e1 e2 hb ho hbo
    go_enter Try.func35, Try.ntmps35
    go_wp2_with (first
      | (go_at_call 87; refine (l02Changes_any _ g' n' c' cs HN'.out hm' HC.out _).mono ?_; rintro e w' ⟨rfl, rfl⟩; rw [HB.out])
      | (go_at_call 70; refine (l02Orders_n _ g n c os HN.out hcap hm _ (by omega) (by omega) HX.out).mono ?_; rintro e w1 ⟨rfl, hd⟩; rw [HO.out]; have hb : Below w.heap.size w w1 := hd.below))
    go_ret2
    exact ⟨rfl, hb⟩
  have HO := Lib.hid (ho.trans hbo)
  have e2 : ccB os cs = true := by unfold ccB; rw [hn, hb, ← hn, hbo]; rfl
  have e1 : ccV os cs = ccK os cs n (n - 1) := by unfold ccV; rw [e2, hn]; rfl
  rw [e1, e2]
  obtain ⟨n1, n2, hsq, hat⟩ := cc_at e2
  have hbd := ccK_bd e2
  rw [hn] at n1 n2 hbd
  have hnI : (os.length : Int) = n := by rw [hn]
  have hfact : ∀ w1, Rd w1 g 0 os → Rd w1 g' 0 cs → ∀ i j, i < n → j < n → ∃ (o p m : Int) (y : Nat) (v : Int), w1.cell? ⟨g, i, none⟩ = some (.int .i64 o) ∧ w1.cell? ⟨g, j, none⟩ = some (.int .i64 p) ∧ IntKind.i64.wrap (o * (n : Int)) = m ∧ IntKind.i64.wrap (m + p) = (y : Int) ∧ y < n' ∧ w1.cell? ⟨g', y, none⟩ = some (.int .i64 v) ∧ csAt cs (eN os i * n + eN os j) = v ∧ 0 ≤ v ∧ v ≤ 10000 := by
    intro w1 h1 h2 i j hi hj
    obtain ⟨t0, t1, t2, t3, t4, t5, t6, t7⟩ := hat i j (by omega) (by omega)
    rw [hnI] at t2 t3 t4 t5 t6 t7
    have c1 := h1 i (by omega); have c2 := h1 j (by omega); have c3 := h2 (os[i] * (n : Int) + os[j]).toNat (by omega)
    rw [Nat.zero_add] at c1 c2 c3
    refine ⟨_, _, os[i] * (n : Int), (os[i] * (n : Int) + os[j]).toNat, _, c1, c2, IntWalk.i64_in _ (by omega), ?_, by omega, c3, ?_, ?_⟩
    · rw [IntWalk.i64_in _ (by omega)]; omega
    · rw [eN_eq (show i < os.length by omega), eN_eq (show j < os.length by omega)]; exact csAt_eq t4 t5
    · rw [csAt_eq t4 t5] at t6 t7; exact ⟨t6, t7⟩
  have HF := Lib.hid hfact; have HBD := Lib.hid hbd
  have m0 : 0 < n := n1
  clear hn hn' hx hc e1 e2 hb ho hbo hsq hat hbd hfact hnI
  go_enter Try.func35, Try.ntmps35
  go_wp2_with (first
    | (go_at_call 87; refine (l02Changes_any _ g' n' c' cs HN'.out hm' HC.out _).mono ?_; rintro e w' ⟨rfl, rfl⟩; rw [HB.out])
    | (go_at_call 70; refine (l02Orders_n _ g n c os HN.out hcap hm _ (by omega) (by omega) HX.out).mono ?_; rintro e w1 ⟨rfl, hd⟩; rw [HO.out]; have hb : Below w.heap.size w w1 := hd.below))
  have hx1 := HX.out.below hb hg; have hc1 := HC.out.below hb hg'
  have X1 := Lib.hid hx1; have C1 := Lib.hid hc1; have B1 := Lib.hid hb
  clear hx1 hc1 hb hd
  obtain ⟨o, p, m, y, v, c1, c2, wm, wy, hy, c3, hv, v0, v1⟩ := HF.out w1 X1.out C1.out 0 0 m0 m0
  obtain rfl : o = p := by have := c1.symm.trans c2; injection this with this; injection this
  have HV := Lib.hid hv
  clear c2 hv
  go_quiet (fail)
  have h0 : v = ccK os cs n 0 := by rw [← HV.out]; rfl
  rw [h0]
  clear h0 c1 wm wy hy c3 v0 v1
  go_wp2
  go_loopw [7, 8] (fun s i wr => ∃ k : Nat, 1 ≤ k ∧ k ≤ n ∧ i = .int .i64 k ∧ s = .int .i64 (ccK os cs n (k - 1)) ∧ Dr w1 wr) (fun _ i _ => n - (intOf i).toNat)
  case atStart => exact ⟨1, by omega, by omega, rfl, rfl, ⟨_, rfl⟩⟩
  case round =>
    obtain ⟨k, hk1, hk, rfl, rfl, hd⟩ := hrel
    have HD := Lib.hid hd
    by_cases hlt : k < n
    · obtain ⟨j, rfl⟩ : ∃ j, k = j + 1 := ⟨k - 1, by omega⟩
      obtain ⟨o', p, m', y', v', c1, c2, wm, wy, hy, c3, hv, v0, v1⟩ := HF.out wr (hd.rd X1.out) (hd.rd C1.out) j (j + 1) (by omega) hlt
      rw [Nat.add_sub_cancel]
      obtain ⟨q0, q1⟩ := HBD.out j (by omega)
      have hs : ccK os cs n (j + 1) = ccK os cs n j + v' := by rw [← hv]; rfl
      have HS := Lib.hid hs
      generalize ccK os cs n j = cv at *
      have ws : IntKind.i64.wrap (cv + v') = cv + v' := IntWalk.i64_in _ (by omega)
      have wk : IntKind.i64.wrap (((j + 1 : Nat) : Int) - 1) = (j : Int) := by rw [IntWalk.i64_in _ (by omega)]; omega
      clear hs hv hd q0 q1 v0 v1
      have hj : j < n := by omega
      generalize hki : j + 1 = i at *
      have hi' : i + 1 - 1 = i := rfl
      go_wp2
      go_quiet (fail)
      go_wp2
      go_roundw
      case rel => exact ⟨i + 1, by omega, by omega, by go_num, by rw [hi', HS.out], HD.out.drewN _⟩
      case measure => simp [intOf]; omega
    · obtain rfl : k = n := by omega
      go_wp2
      go_ret2
      exact ⟨rfl, B1.out.trans HD.out.below⟩

set_option maxHeartbeats 4000000 in
set_option maxRecDepth 100000 in
theorem implCC (w : World) (g n c : Nat) (os : List Int) (hn : os.length = n) (hcap : n ≤ c) (hm : n ≤ 1048576) (hx : Rd w g 0 os) (hg : g < w.heap.size) (g' n' c' : Nat) (cs : List Int) (hn' : cs.length = n') (hcap' : n' ≤ c') (hm' : n' ≤ 1048576) (hc : Rd w g' 0 cs) (hg' : g' < w.heap.size) :
    Calls Try.prog 36 #[.slice (some ⟨g, 0, none⟩) n c, .slice (some ⟨g', 0, none⟩) n' c'] w fun e w' => e = .returned (.tuple #[.int .i64 (ccV os cs), .bool (ccB os cs)]) ∧ Below w.heap.size w w' := by
  have HN := Lib.hid hn; have HN' := Lib.hid hn'; have HX := Lib.hid hx; have HC := Lib.hid hc
  cases hb : chB cs n
  · have e2 : ccB os cs = false := by unfold ccB; rw [hn, hb]; rfl
    have e1 : ccV os cs = 0 := by unfold ccV; rw [e2]; rfl
    rw [e1, e2]
    have HB := Lib.hid hb
    clear hn hn' hx hc e1 e2 hb
    go_enter Try.func36, Try.ntmps36
    go_wp2_with (go_at_call 88; refine (areCosts_any _ g' n' c' cs HN'.out hm' HC.out _).mono ?_; rintro e w' ⟨rfl, rfl⟩; rw [HB.out])
    go_ret2
    exact ⟨rfl, .refl _ _⟩
  have HB := Lib.hid hb
  have ho : isOrdB os n = ordB os os.length os.length := by
    unfold isOrdB; unfold chB at hb; simp only [Bool.and_eq_true] at hb; obtain ⟨x0, x1⟩ := inB_lo hb.1; rw [show inB (n : Int) 1 24 = true by simp [inB]; omega, hn, decide_eq_true rfl, Bool.and_true, Bool.true_and]
  cases hbo : ordB os os.length os.length
  · have e2 : ccB os cs = false := by unfold ccB; rw [hn, hb, ← hn, hbo]; rfl
    have e1 : ccV os cs = 0 := by unfold ccV; rw [e2]; rfl
    rw [e1, e2]
    have HO := Lib.hid (ho.trans hbo)
    clear hn hn' hx hc e1 e2 hb ho hbo
    go_enter Try.func36, Try.ntmps36
    go_wp2_with (first
      | (go_at_call 88; refine (areCosts_any _ g' n' c' cs HN'.out hm' HC.out _).mono ?_; rintro e w' ⟨rfl, rfl⟩; rw [HB.out])
      | (go_at_call 24; refine (implIsOrder_any _ c n os _ _ HN.out hm (.inr ⟨g, 0, rfl, HX.out⟩)).mono ?_; rintro e w1 ⟨rfl, hb⟩; rw [HO.out]))
    go_ret2
    exact ⟨rfl, hb⟩
  have HO := Lib.hid (ho.trans hbo)
  have e2 : ccB os cs = true := by unfold ccB; rw [hn, hb, ← hn, hbo]; rfl
  have e1 : ccV os cs = ccK os cs n (n - 1) := by unfold ccV; rw [e2, hn]; rfl
  rw [e1, e2]
  obtain ⟨n1, n2, hsq, hat⟩ := cc_at e2
  have hbd := ccK_bd e2
  rw [hn] at n1 n2 hbd
  have hnI : (os.length : Int) = n := by rw [hn]
  have hfact : ∀ w1, Rd w1 g 0 os → Rd w1 g' 0 cs → ∀ i j, i < n → j < n → ∃ (o p m : Int) (y : Nat) (v : Int), w1.cell? ⟨g, i, none⟩ = some (.int .i64 o) ∧ w1.cell? ⟨g, j, none⟩ = some (.int .i64 p) ∧ IntKind.i64.wrap (o * (n : Int)) = m ∧ IntKind.i64.wrap (m + p) = (y : Int) ∧ y < n' ∧ w1.cell? ⟨g', y, none⟩ = some (.int .i64 v) ∧ csAt cs (eN os i * n + eN os j) = v ∧ 0 ≤ v ∧ v ≤ 10000 := by
    intro w1 h1 h2 i j hi hj
    obtain ⟨t0, t1, t2, t3, t4, t5, t6, t7⟩ := hat i j (by omega) (by omega)
    rw [hnI] at t2 t3 t4 t5 t6 t7
    have c1 := h1 i (by omega); have c2 := h1 j (by omega); have c3 := h2 (os[i] * (n : Int) + os[j]).toNat (by omega)
    rw [Nat.zero_add] at c1 c2 c3
    refine ⟨_, _, os[i] * (n : Int), (os[i] * (n : Int) + os[j]).toNat, _, c1, c2, IntWalk.i64_in _ (by omega), ?_, by omega, c3, ?_, ?_⟩
    · rw [IntWalk.i64_in _ (by omega)]; omega
    · rw [eN_eq (show i < os.length by omega), eN_eq (show j < os.length by omega)]; exact csAt_eq t4 t5
    · rw [csAt_eq t4 t5] at t6 t7; exact ⟨t6, t7⟩
  have HF := Lib.hid hfact; have HBD := Lib.hid hbd
  have m0 : 0 < n := n1
  clear hn hn' hx hc e1 e2 hb ho hbo hsq hat hbd hfact hnI
  go_enter Try.func36, Try.ntmps36
  go_wp2_with (first
    | (go_at_call 88; refine (areCosts_any _ g' n' c' cs HN'.out hm' HC.out _).mono ?_; rintro e w' ⟨rfl, rfl⟩; rw [HB.out])
    | (go_at_call 24; refine (implIsOrder_any _ c n os _ _ HN.out hm (.inr ⟨g, 0, rfl, HX.out⟩)).mono ?_; rintro e w1 ⟨rfl, hb⟩; rw [HO.out]))
  have hx1 := HX.out.below hb hg; have hc1 := HC.out.below hb hg'
  have X1 := Lib.hid hx1; have C1 := Lib.hid hc1; have B1 := Lib.hid hb
  clear hx1 hc1 hb 
  obtain ⟨o, p, m, y, v, c1, c2, wm, wy, hy, c3, hv, v0, v1⟩ := HF.out w1 X1.out C1.out 0 0 m0 m0
  obtain rfl : o = p := by have := c1.symm.trans c2; injection this with this; injection this
  have HV := Lib.hid hv
  clear c2 hv
  go_quiet (fail)
  have h0 : v = ccK os cs n 0 := by rw [← HV.out]; rfl
  rw [h0]
  clear h0 c1 wm wy hy c3 v0 v1
  by_cases hone : n = 1
  · subst hone
    by_cases hc1 : c = 1
    · subst hc1
      go_wp2
      refine wp_loop_rounds 1 ?_; rw [rounds_succ]
      go_wp2
      go_ret2
      exact ⟨rfl, below_drewN B1.out _⟩
    · go_wp2
      refine wp_loop_rounds 1 ?_; rw [rounds_succ]
      go_wp2
      go_ret2
      exact ⟨rfl, below_drewN B1.out _⟩
  obtain ⟨l, rfl⟩ : ∃ l, n = l + 2 := ⟨n - 2, by omega⟩
  have hc1 : c ≠ l + 1 := by omega
  have hc2 : ¬ c = 1 := by omega
  go_wp2
  go_loopw [7, 8, 9, 37] (fun s _ _ i wr => ∃ k : Nat, k ≤ l + 1 ∧ i = .int .i64 k ∧ s = .int .i64 (ccK os cs (l + 2 : Nat) k) ∧ Dr w1 wr) (fun _ _ _ i _ => l + 1 - (intOf i).toNat)
  case atStart => exact ⟨0, by omega, rfl, rfl, ⟨_, rfl⟩⟩
  case round =>
    obtain ⟨k, hk, rfl, rfl, hd⟩ := hrel
    have HD := Lib.hid hd
    by_cases hlt : k < l + 1
    · obtain ⟨o', p, m', y', v', c1, c2, wm, wy, hy, c3, hv, v0, v1⟩ := HF.out wr (hd.rd X1.out) (hd.rd C1.out) k (k + 1) (by omega) (by omega)
      obtain ⟨q0, q1⟩ := HBD.out k (by omega)
      have hs : ccK os cs (l + 2 : Nat) (k + 1) = ccK os cs (l + 2 : Nat) k + v' := by rw [← hv]; rfl
      have HS := Lib.hid hs
      generalize ccK os cs (l + 2 : Nat) k = cv at *
      have ws : IntKind.i64.wrap (cv + v') = cv + v' := IntWalk.i64_in _ (by omega)
      have c2' : wr.cell? ⟨g, 1 + k, none⟩ = some (.int .i64 p) := by rw [Nat.add_comm]; exact c2
      have wm' : IntKind.i64.wrap (o' * ((l : Int) + 2)) = m' := by have := wm; push_cast at this; exact this
      clear hs hv hd q0 q1 v0 v1 c2 wm
      go_wp2
      go_roundw
      case rel => exact ⟨k + 1, by omega, by go_num, by rw [HS.out], HD.out⟩
      case measure => simp [intOf]; omega
    · obtain rfl : k = l + 1 := by omega
      go_wp2
      go_ret2
      exact ⟨rfl, B1.out.trans HD.out.below⟩

set_option maxHeartbeats 4000000 in
set_option maxRecDepth 100000 in
theorem changeCost_walk (a0 : Option Addr) (len0 cap0 : Nat) (z0 : List Int) (a1 : Option Addr) (len1 cap1 : Nat) (z1 : List Int) (w : World) (w0 : IsRow .i64 w a0 len0 cap0 z0) (w1 : IsRow .i64 w a1 len1 cap1 z1) :
    Calls Try.prog 7 #[.slice a0 len0 cap0, .slice a1 len1 cap1] w fun e w' => e = .returned (.bool true) ∧ Below w.heap.size w w' := by
  have hlz0 := w0.len
  have HLm0 : len0 ≤ 9223372036854775807 := by
    have := w0; rcases this with ⟨_, h, _, _⟩ | ⟨_, _, h1, h2, _⟩ <;> (try simp only [maxLen] at *) <;> omega
  have W0 := Lib.hid w0; clear w0
  have HL0 := Lib.hid (take_len hlz0)
  clear hlz0
  have hlz1 := w1.len
  have HLm1 : len1 ≤ 9223372036854775807 := by
    have := w1; rcases this with ⟨_, h, _, _⟩ | ⟨_, _, h1, h2, _⟩ <;> (try simp only [maxLen] at *) <;> omega
  have W1 := Lib.hid w1; clear w1
  have HL1 := Lib.hid (take_len hlz1)
  clear hlz1
  by_cases h0 : len0 ≤ 1048576
  case neg =>
    go_enter Try.func7, Try.ntmps7
    go_wp2
    go_ret
    exact ⟨rfl, .refl _ _⟩
  by_cases h1 : len1 ≤ 1048576
  case neg =>
    go_enter Try.func7, Try.ntmps7
    go_wp2
    go_ret
    exact ⟨rfl, .refl _ _⟩
  go_enter Try.func7, Try.ntmps7
  have B0 := Lib.hid (Below.refl w.heap.size w)
  go_wp2_with fail
  go_at_call 23
  refine (toInt64S_any a0 len0 cap0 z0 _ (W0.out.below B0.out) h0).mono ?_
  rintro e w1 ⟨gS0, rfl, hr, hg, hb⟩
  rw [HL0.out] at hr ⊢
  have B1 := Lib.hid (B0.out.trans (hb.mono B0.out.size))
  have S0_1 := Lib.hid hr; clear hr hb hg
  go_wp2_with fail
  go_at_call 23
  refine (toInt64S_any a1 len1 cap1 z1 _ (W1.out.below B1.out) h1).mono ?_
  rintro e w2 ⟨gS1, rfl, hr, hg, hb⟩
  rw [HL1.out] at hr ⊢
  have S0_2 := Lib.hid (S0_1.out.below hb S0_1.out.lt)
  have B2 := Lib.hid (B1.out.trans (hb.mono B1.out.size))
  have S1_2 := Lib.hid hr; clear hr hb hg
  go_wp2_with fail
  go_at_call 35
  refine (specCC _ gS0 len0 len0 (z0.take len0) HL0.out (Nat.le_refl _) h0 S0_2.out.rd S0_2.out.lt gS1 len1 len1 (z1.take len1) HL1.out (Nat.le_refl _) h1 S1_2.out.rd S1_2.out.lt).mono ?_
  rintro e w3 ⟨rfl, hb⟩
  have S0_3 := Lib.hid (S0_2.out.below hb S0_2.out.lt)
  have S1_3 := Lib.hid (S1_2.out.below hb S1_2.out.lt)
  have B3 := Lib.hid (B2.out.trans (hb.mono B2.out.size))
  clear hb
  go_wp2_with fail
  go_at_call 23
  refine (toInt64S_any a0 len0 cap0 z0 _ (W0.out.below B3.out) h0).mono ?_
  rintro e w4 ⟨gX0, rfl, hr, hg, hb⟩
  rw [HL0.out] at hr ⊢
  have B4 := Lib.hid (B3.out.trans (hb.mono B3.out.size))
  have X0_4 := Lib.hid hr; clear hr hb hg
  go_wp2_with fail
  go_at_call 23
  refine (toInt64S_any a1 len1 cap1 z1 _ (W1.out.below B4.out) h1).mono ?_
  rintro e w5 ⟨gX1, rfl, hr, hg, hb⟩
  rw [HL1.out] at hr ⊢
  have X0_5 := Lib.hid (X0_4.out.below hb X0_4.out.lt)
  have B5 := Lib.hid (B4.out.trans (hb.mono B4.out.size))
  have X1_5 := Lib.hid hr; clear hr hb hg
  go_wp2_with fail
  go_at_call 36
  refine (implCC _ gX0 len0 len0 (z0.take len0) HL0.out (Nat.le_refl _) h0 X0_5.out.rd X0_5.out.lt gX1 len1 len1 (z1.take len1) HL1.out (Nat.le_refl _) h1 X1_5.out.rd X1_5.out.lt).mono ?_
  rintro e w6 ⟨rfl, hb⟩
  have X0_6 := Lib.hid (X0_5.out.below hb X0_5.out.lt)
  have X1_6 := Lib.hid (X1_5.out.below hb X1_5.out.lt)
  have B6 := Lib.hid (B5.out.trans (hb.mono B5.out.size))
  clear hb
  go_wp2_with fail
  go_at_call 23
  refine (toInt64S_any a0 len0 cap0 z0 _ (W0.out.below B6.out) h0).mono ?_
  rintro e w7 ⟨gE0, rfl, hr, hg, hb⟩
  rw [HL0.out] at hr ⊢
  have X0_7 := Lib.hid (X0_6.out.below hb X0_6.out.lt)
  have X1_7 := Lib.hid (X1_6.out.below hb X1_6.out.lt)
  have B7 := Lib.hid (B6.out.trans (hb.mono B6.out.size))
  have E0_7 := Lib.hid hr; clear hr hb hg
  go_wp2_with fail
  go_at_call 25
  refine (eqInt64S_any _ _ len0 len0 len0 len0 (z0.take len0) (z0.take len0) _ HL0.out HL0.out X0_7.out.at' E0_7.out.at' h0 h0).mono ?_
  rintro e w8 ⟨rfl, hd⟩
  rw [eqB_self]
  have hb : Below w7.heap.size w7 w8 := hd.below
  have X0_8 := Lib.hid (X0_7.out.below hb X0_7.out.lt)
  have X1_8 := Lib.hid (X1_7.out.below hb X1_7.out.lt)
  have B8 := Lib.hid (B7.out.trans (hb.mono B7.out.size))
  clear hb
  go_wp2_with fail
  go_at_call 23
  refine (toInt64S_any a1 len1 cap1 z1 _ (W1.out.below B8.out) h1).mono ?_
  rintro e w9 ⟨gE1, rfl, hr, hg, hb⟩
  rw [HL1.out] at hr ⊢
  have X0_9 := Lib.hid (X0_8.out.below hb X0_8.out.lt)
  have X1_9 := Lib.hid (X1_8.out.below hb X1_8.out.lt)
  have B9 := Lib.hid (B8.out.trans (hb.mono B8.out.size))
  have E1_9 := Lib.hid hr; clear hr hb hg
  go_wp2_with fail
  go_at_call 25
  refine (eqInt64S_any _ _ len1 len1 len1 len1 (z1.take len1) (z1.take len1) _ HL1.out HL1.out X1_9.out.at' E1_9.out.at' h1 h1).mono ?_
  rintro e w10 ⟨rfl, hd⟩
  rw [eqB_self]
  have hb : Below w9.heap.size w9 w10 := hd.below
  have X0_10 := Lib.hid (X0_9.out.below hb X0_9.out.lt)
  have X1_10 := Lib.hid (X1_9.out.below hb X1_9.out.lt)
  have B10 := Lib.hid (B9.out.trans (hb.mono B9.out.size))
  clear hb
  go_wp2
  go_ret
  exact ⟨rfl, B10.out⟩

end Go.Proofs.Ytncmhinpjkkfkaa
