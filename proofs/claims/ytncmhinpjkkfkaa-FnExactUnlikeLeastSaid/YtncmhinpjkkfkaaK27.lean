/-
  Walks: the law UnlikeList: the program's function and the law. Conditions: none.
-/
import Derived.Test.YtncmhinpjkkfkaaK26
set_option linter.unusedVariables false
set_option linter.unusedSimpArgs false
namespace Go.Proofs.Ytncmhinpjkkfkaa
open Go Go.RowKit

set_option maxRecDepth 100000 in
/-- append(out, a), the heap's size under a name. -/
theorem push_intN {ops : Array Oper} {rest : List Oper} {o : Oper} {ac : Act} {Q : Exit → Act → World → Prop} (w : World) (hgd : o.guard = none) (s x : Operand)
    (ho : o.op = .call { callee := .builtin .append, args := #[s, x], argTypes := #[22, 22] })
    (G cap : Nat) (xs : List Int) (n : Nat) (a : Int) (N : Nat) (hN : w.heap.size = N) (hs : ac.eval s = .slice (some ⟨G, 0, none⟩) n cap) (hn : xs.length = n) (hrow : Rw w G cap xs)
    (hx : ac.eval x = .slice (some ⟨N, 0, none⟩) 1 1) (hsm : n + 1 ≤ 1048576)
    (h : ∀ G' cap' w', Rw w' G' cap' (xs ++ [a]) → Touch G (w.alloc (.cells #[.int .i64 a] 2)) w' → (G' = G ∨ G' = w.heap.size + 1) → wpList Try.prog ops Q rest (ac.put o.dst (.slice (some ⟨G', 0, none⟩) (n + 1) cap')) w') :
    wpList Try.prog ops Q (o :: rest) ac (w.alloc (.cells #[.int .i64 a] 2)) := by
  subst hN; exact push_int w hgd s x ho G cap xs n a hs hn hrow hx hsm h

theorem size_setCell (w : World) (a : Addr) (v : Value) : (w.setCell a v).heap.size = w.heap.size := by simp

set_option maxHeartbeats 8000000 in
set_option maxRecDepth 100000 in
theorem implUn_yes (w : World) (g n c : Nat) (ts : List Int) (hn : ts.length = n) (hcap : n ≤ c) (hm : n ≤ 1048576) (hj : Rd w g 0 ts) (hg : g < w.heap.size) (x : Int) (xlo : -9223372036854775808 ≤ x) (xhi : x ≤ 9223372036854775807) (hc : unB ts x = true) :
    Calls Try.prog 38 #[.slice (some ⟨g, 0, none⟩) n c, .int .i64 x] w (UnP ts x w) := by
  obtain ⟨m, rfl, m1, m2, hmb, q1, q0, q24, hnq, hall⟩ := unB_of hc
  rw [hn] at q1 q24 hnq
  obtain ⟨q, hq⟩ : ∃ q, n / m = q := ⟨_, rfl⟩
  rw [hq] at q1 q24 hnq
  have hqv : ((ts.length / (m : Int).toNat : Nat) : Int) = (q : Int) := by rw [Int.toNat_natCast, hn, hq]
  have ht : ∀ i, i < q * m → 1 ≤ ts.getD i 0 ∧ ts.getD i 0 ≤ 10000 := fun i hi => hall _ (getD_mem (by omega))
  have hbd := unS_bd ht m1
  have hlen := unS_len ts m
  have hfin : ∀ w' G cap, Rw w' G cap (unS ts m q).1 → w.heap.size ≤ G → Below w.heap.size w w' → UnP ts m w (.returned (.tuple #[.slice (some ⟨G, 0, none⟩) q cap, .int .i64 (mxK (unS ts m q).2 m), .bool true])) w' := by
    intro w' G cap h1 h2 h3
    unfold UnP
    rw [Int.toNat_natCast, hn, hq]
    exact ⟨G, cap, by rw [(hlen q).1], h1, h2, h3⟩
  have HF' := Lib.hid hfin; have HN := Lib.hid hn; have HT := Lib.hid hj; have HC := Lib.hid hc; have HTR := Lib.hid ht; have HB := Lib.hid hbd; have HL := Lib.hid hlen; have HNQ := Lib.hid hnq; have HQV := Lib.hid hqv
  clear hfin hn hj hc ht hbd hlen hq hall hmb q0 hnq hqv
  go_enter Try.func38, Try.ntmps38
  go_wp2_with (first
    | (go_at_call 91; refine (unlikeJobs_any g c n ts _ _ HN.out hm HT.out).mono ?_; rintro e w' ⟨v, rfl, hv, rfl⟩; rw [hv HC.out, HQV.out, HC.out]; clear hv)
    | (at_make; refine wp_make rfl (.tmp 24) 22 rfl 2 (.int .i64 0) 8 Try.underlying22 Try.info2 rfl m .i64 _ rfl rfl (by omega) (by unfold maxLen; omega) ?_; intro w1 hrow hbel; have RF1 := Lib.hid (rw_zero hrow); have B1 := Lib.hid hbel; have hlt1 := hrow.lt; have hszb := hbel.size; clear hrow hbel))
  have RF0 : Hid (Rw (w1.alloc (.cells #[] 2)) w.heap.size m (unS ts m 0).2) := Lib.hid (RF1.out.alloc _)
  have B0 : Hid (Below w.heap.size w (w1.alloc (.cells #[] 2))) := Lib.hid (below_alloc B1.out _)
  have RO0 : Hid (Rw (w1.alloc (.cells #[] 2)) w1.heap.size 0 []) := Lib.hid (rw_nil (row_fresh w1))
  obtain ⟨GF, hGF⟩ : ∃ G, w.heap.size = G := ⟨_, rfl⟩
  obtain ⟨GO0, hGO⟩ : ∃ G, w1.heap.size = G := ⟨_, rfl⟩
  have HGF := Lib.hid hGF
  have RF0' : Hid (Rw (w1.alloc (.cells #[] 2)) GF m (unS ts m 0).2) := Lib.hid (by rw [← hGF]; exact RF0.out)
  have B0' : Hid (Below GF w (w1.alloc (.cells #[] 2))) := Lib.hid (by rw [← hGF]; exact B0.out)
  have RO0' : Hid (Rw (w1.alloc (.cells #[] 2)) GO0 0 []) := Lib.hid (by rw [← hGO]; exact RO0.out)
  have hFO : GF < GO0 := by omega
  rw [hGO, hGF]
  rw [hGF] at hg
  clear RF0 B0 RO0 hGF hGO hlt1 hszb RF1 B1
  go_loopw [10, 11, 12, 13, 14, 15, 28] (fun o _ _ _ _ _ i wr => ∃ k G cap : Nat, k ≤ q ∧ i = .int .i64 k ∧ o = .slice (some ⟨G, 0, none⟩) k cap ∧ Rw wr G cap (unS ts m k).1 ∧ Rw wr GF m (unS ts m k).2 ∧ Below GF w wr ∧ GF < G) (fun _ _ _ _ _ _ i _ => q - (intOf i).toNat)
  case atStart => exact ⟨0, GO0, 0, by omega, rfl, rfl, RO0'.out, RF0'.out, B0'.out, hFO⟩
  case round =>
    obtain ⟨k, G, cap, hk, rfl, rfl, hro, hrf, hbk, hFG⟩ := hrel
    have HO := Lib.hid hro; have HF := Lib.hid hrf; have HBk := Lib.hid hbk
    have HLO := Lib.hid (HL.out k).1; have HLF := Lib.hid (HL.out k).2
    clear hro hrf hbk RO0' RF0' B0'
    by_cases hlt : k < q
    · have hkm : k * m + m ≤ n := by
        have h1 : (k + 1) * m ≤ q * m := Nat.mul_le_mul_right _ hlt
        rw [Nat.add_mul, Nat.one_mul] at h1; have := HNQ.out; omega
      obtain ⟨p, hp⟩ : ∃ p, k * m = p := ⟨_, rfl⟩
      rw [hp] at hkm
      have hpI : (k : Int) * (m : Int) = (p : Int) := by rw [← hp, Int.natCast_mul]
      have hs1 : (unS ts m (k + 1)).1 = (unS ts m k).1 ++ [((amK (thenL ts m (unS ts m k).2 k m) m : Nat) : Int)] := rfl
      have hs2 : (unS ts m (k + 1)).2 = (unS ts m k).2.set (amK (thenL ts m (unS ts m k).2 k m) m) ((thenL ts m (unS ts m k).2 k m).getD (amK (thenL ts m (unS ts m k).2 k m) m) 0) := rfl
      have HS1 := Lib.hid hs1; have HS2 := Lib.hid hs2
      have HBB := Lib.hid (HB.out k (by omega))
      have HTS : Hid (∀ r, thenL ts m (unS ts m k).2 k (r + 1) = thenL ts m (unS ts m k).2 k r ++ [(unS ts m k).2.getD r 0 + ts.getD (p + r) 0]) := Lib.hid (fun r => by rw [thenL_succ, hp])
      have HTL : Hid (∀ r, (thenL ts m (unS ts m k).2 k r).length = r) := Lib.hid (fun r => thenL_len ..)
      have HTT : Hid (∀ j, j < m → 1 ≤ ts.getD (p + j) 0 ∧ ts.getD (p + j) 0 ≤ 10000) := Lib.hid (fun j hj => HTR.out _ (by have := HNQ.out; omega))
      have hT0 : thenL ts m (unS ts m k).2 k 0 = [] := rfl
      have HT0 := Lib.hid hT0
      clear hs1 hs2 hp hT0
      generalize (unS ts m k).1 = os at *
      generalize (unS ts m k).2 = fs at *
      have HPI := Lib.hid hpI
      clear hpI
      go_wp2
      obtain ⟨wo, rfl⟩ : ∃ wo : World, wo = wr := ⟨_, rfl⟩
      have E2 : Hid (Rw (wo.alloc (.cells #[] 2)) wo.heap.size 0 (thenL ts m fs k 0)) := Lib.hid (by rw [HT0.out]; exact rw_nil (row_fresh wo))
      have EO : Hid (Rw (wo.alloc (.cells #[] 2)) G cap os) := Lib.hid (HO.out.alloc _)
      have EF : Hid (Rw (wo.alloc (.cells #[] 2)) GF m fs) := Lib.hid (HF.out.alloc _)
      have EB : Hid (Below GF w (wo.alloc (.cells #[] 2))) := Lib.hid (by have h1 := HBk.out; rw [← HGF.out] at h1 ⊢; exact below_alloc h1 _)
      have lo := HO.out.lt
      have lf := HF.out.lt
      obtain ⟨N0, hN0⟩ : ∃ N, wo.heap.size = N := ⟨_, rfl⟩
      rw [hN0] at E2 lo lf ⊢
      clear hN0 HO HF HBk
      go_loopw [12, 13, 14, 34] (fun th _ _ i wr => ∃ r G2 cap2 : Nat, r ≤ m ∧ i = .int .i64 r ∧ th = .slice (some ⟨G2, 0, none⟩) r cap2 ∧ Rw wr G2 cap2 (thenL ts m fs k r) ∧ Rw wr G cap os ∧ Rw wr GF m fs ∧ Below GF w wr ∧ GF ≠ G2 ∧ G ≠ G2 ∧ GF ≤ G2) (fun _ _ _ i _ => m - (intOf i).toNat)
      case atStart => exact ⟨0, N0, 0, by omega, rfl, rfl, E2.out, EO.out, EF.out, EB.out, by omega, by omega, by omega⟩
      case round =>
        obtain ⟨r, G2, cap2, hr, rfl, rfl, h2, ho, hf, hb, hF2, hO2, hB2⟩ := hrel
        have H2 := Lib.hid h2; have HO := Lib.hid ho; have HF := Lib.hid hf; have HBk := Lib.hid hb
        clear h2 ho hf hb
        by_cases hql : r < m
        · have d1 := HF.out.cell r (by have := HLF.out; omega)
          have d3 := (HT.out.below HBk.out hg).get (p + r) (by have := HN.out; omega)
          obtain ⟨b1, b2⟩ := HBB.out r hql
          obtain ⟨b5, b6⟩ := HTT.out r hql
          have hts := HTS.out r
          have HTS' := Lib.hid hts
          have hlr := HTL.out r
          have HLR := Lib.hid hlr
          clear hts hlr
          have hpI := HPI.out
          generalize fs.getD r 0 = v1 at *
          generalize ts.getD (p + r) 0 = t1 at *
          go_wp2_with (at_builtin; refine push_int _ rfl _ _ rfl G2 cap2 (thenL ts m fs k r) r (v1 + t1) (by rfl) HLR.out H2.out (by rfl) (by omega) ?_; intro G' cap' w4 hO4 htc hat; have hsw : (w.heap.size = GF) := HGF.out; obtain ⟨hb4, hG4, hrest⟩ := push_rest (w := w) (by rw [hsw]; exact HBk.out) (by omega) H2.out.lt htc hat; obtain ⟨hF4, hne4⟩ := hrest _ _ _ HF.out hF2; obtain ⟨hQ4, hne5⟩ := hrest _ _ _ HO.out hO2; rw [hsw] at hb4 hG4; have H24 := Lib.hid hO4; have HF4 := Lib.hid hF4; have HO4 := Lib.hid hQ4; have HB4 := Lib.hid hb4; clear hO4 htc hat hrest hF4 hb4 hQ4 hsw)
          go_roundw
          case rel => exact ⟨r + 1, G', cap', by omega, by go_num, rfl, by rw [HTS'.out]; exact H24.out, HO4.out, HF4.out, HB4.out, hne4, hne5, hG4⟩
          case measure => simp [intOf]; omega
        · obtain rfl : r = m := by omega
          clear hql
          have ham := amK_lt (thenL ts r fs k r) r m1
          have HLT := Lib.hid (HTL.out r)
          have hx1 := H2.out.cell (amK (thenL ts r fs k r) r) (by have := HLT.out; omega)
          generalize thenL ts r fs k r = tl at *
          obtain ⟨a, hga⟩ : ∃ a, amK tl r = a := ⟨_, rfl⟩
          rw [hga] at ham hx1 HS1 HS2
          have HGA := Lib.hid hga
          clear hga
          obtain ⟨z, hz⟩ : ∃ z, tl.getD a 0 = z := ⟨_, rfl⟩
          rw [hz] at hx1 HS2
          clear hz
          have f1 := HF.out.cell a (by have := HLF.out; omega)
          have f2 := HF.out.free a
          obtain ⟨W1, hW1⟩ : ∃ W : World, W = wr.setCell ⟨GF, a, none⟩ (.int .i64 z) := ⟨_, rfl⟩
          have HF1 : Hid (Rw W1 GF r (fs.set a z)) := Lib.hid (by rw [hW1]; exact HF.out.set a _)
          have HO1 : Hid (Rw W1 G cap os) := Lib.hid (by rw [hW1]; exact HO.out.past (by omega) a _)
          have HB1 : Hid (Below GF w W1) := Lib.hid (by rw [hW1]; exact HBk.out.setCell (p := ⟨GF, a, none⟩) (Nat.le_refl _) _)
          have HN1 : Hid (W1.heap.size = wr.heap.size) := Lib.hid (by rw [hW1]; exact size_setCell _ _ _)
          have HW1 := Lib.hid hW1
          clear hW1
          go_wp2_with (first
            | (go_at_call 92; refine (firstFree_any _ _ r tl _ HLT.out (by omega) m1 H2.out.rd).mono ?_; rintro e w' ⟨rfl, rfl⟩; rw [HGA.out])
            | (at_builtin; rw [← HW1.out]; refine push_intN W1 rfl _ _ rfl G cap os k (a : Nat) _ HN1.out (by rfl) HLO.out HO1.out (by rfl) (by omega) ?_; intro G' cap' w4 hO4 htc hat; have hsw : (w.heap.size = GF) := HGF.out; obtain ⟨hb4, hG4, hrest⟩ := push_rest (w := w) (by rw [hsw]; exact HB1.out) (by omega) HO1.out.lt htc hat; obtain ⟨hF4, hne4⟩ := hrest _ _ _ HF1.out (by omega); rw [hsw] at hb4 hG4; have HO4 := Lib.hid hO4; have HF4 := Lib.hid hF4; have HB4 := Lib.hid hb4; clear hO4 htc hat hrest hF4 hb4 hsw))
          go_roundw
          case rel => exact ⟨k + 1, G', cap', by omega, by go_num, rfl, by rw [HS1.out]; exact HO4.out, by rw [HS2.out]; exact HF4.out, HB4.out, by omega⟩
          case measure => simp [intOf]; omega
    · obtain rfl : k = q := by omega
      go_wp2_with (go_at_call 84; refine (slicesMax_any _ 0 _ m _ _ HLF.out (by omega) m1 HF.out.rd).mono ?_; rintro e w' ⟨rfl, rfl⟩)
      go_ret3
      exact HF'.out _ _ _ HO.out (by rw [HGF.out]; omega) (by rw [HGF.out]; exact HBk.out)

set_option maxRecDepth 100000 in
theorem specUn_no (w : World) (g n c : Nat) (ts : List Int) (hn : ts.length = n) (hcap : n ≤ c) (hm : n ≤ 1048576) (hj : Rd w g 0 ts) (hg : g < w.heap.size) (x : Int) (xlo : -9223372036854775808 ≤ x) (xhi : x ≤ 9223372036854775807) (hc : unB ts x = false) :
    Calls Try.prog 37 #[.slice (some ⟨g, 0, none⟩) n c, .int .i64 x] w fun e w' => e = .returned (.tuple #[.slice none 0 0, .int .i64 0, .bool false]) ∧ Below w.heap.size w w' := by
  have HN := Lib.hid hn; have HT := Lib.hid hj; have HC := Lib.hid hc
  clear hn hj hc
  go_enter Try.func37, Try.ntmps37
  go_wp2_with (go_at_call 89; refine (l02Unlike_any g c n ts _ _ HN.out hm HT.out).mono ?_; rintro e w' ⟨rfl, rfl⟩; rw [HC.out])
  go_ret3
  exact ⟨rfl, .refl _ _⟩

set_option maxRecDepth 100000 in
theorem implUn_no (w : World) (g n c : Nat) (ts : List Int) (hn : ts.length = n) (hcap : n ≤ c) (hm : n ≤ 1048576) (hj : Rd w g 0 ts) (hg : g < w.heap.size) (x : Int) (xlo : -9223372036854775808 ≤ x) (xhi : x ≤ 9223372036854775807) (hc : unB ts x = false) :
    Calls Try.prog 38 #[.slice (some ⟨g, 0, none⟩) n c, .int .i64 x] w fun e w' => e = .returned (.tuple #[.slice none 0 0, .int .i64 0, .bool false]) ∧ Below w.heap.size w w' := by
  have HN := Lib.hid hn; have HT := Lib.hid hj; have HC := Lib.hid hc
  clear hn hj hc
  go_enter Try.func38, Try.ntmps38
  go_wp2_with (go_at_call 91; refine (unlikeJobs_any g c n ts _ _ HN.out hm HT.out).mono ?_; rintro e w' ⟨v, rfl, hv, rfl⟩; rw [HC.out]; clear hv)
  go_ret3
  exact ⟨rfl, .refl _ _⟩

theorem unOut_len {ts : List Int} {x : Int} (h : unB ts x = true) : (unS ts x.toNat (ts.length / x.toNat)).1.length ≤ 1048576 := by
  obtain ⟨m, rfl, _, _, _, _, _, h24, _, _⟩ := unB_of h
  rw [(unS_len _ _ _).1, Int.toNat_natCast]; omega

set_option maxHeartbeats 8000000 in
set_option maxRecDepth 100000 in
theorem unlikeList_walk_no (a0 : Option Addr) (len0 cap0 : Nat) (z0 : List Int) (x1 : Int) (w : World) (w0 : IsRow .i64 w a0 len0 cap0 z0) (wf1 : (Lit.int .i64 x1).wf = true) (h0 : len0 ≤ 1048576) (hc : unB (z0.take len0) x1 = false) :
    Calls Try.prog 8 #[.slice a0 len0 cap0, .int .i64 x1] w fun e w' => e = .returned (.bool true) ∧ Below w.heap.size w w' := by
  have hlz0 := w0.len
  have HLm0 : len0 ≤ 9223372036854775807 := by
    have := w0; rcases this with ⟨_, h, _, _⟩ | ⟨_, _, h1, h2, _⟩ <;> (try simp only [maxLen] at *) <;> omega
  have W0 := Lib.hid w0; clear w0
  have HL0 := Lib.hid (take_len hlz0)
  clear hlz0
  have bd1 : -9223372036854775808 ≤ x1 ∧ x1 ≤ 9223372036854775807 := by simpa [Lit.wf, IntKind.min, IntKind.max, IntKind.signed, IntKind.bits] using wf1
  obtain ⟨lo1, hi1⟩ := bd1
  clear wf1
  have HC := Lib.hid hc; clear hc
  go_enter Try.func8, Try.ntmps8
  have B0 := Lib.hid (Below.refl w.heap.size w)
  go_wp2_with fail
  go_at_call 23
  refine (toInt64S_any a0 len0 cap0 z0 _ (W0.out.below B0.out) h0).mono ?_
  rintro e w1 ⟨gS0, rfl, hr, hg, hb⟩
  rw [HL0.out] at hr ⊢
  have B1 := Lib.hid (B0.out.trans (hb.mono B0.out.size))
  have ge_S0 : w.heap.size ≤ gS0 := by have := B0.out.size; omega
  have S0_1 := Lib.hid hr
  clear hr hb hg
  go_wp2_with fail
  go_at_call 37
  refine (specUn_no _ gS0 len0 len0 (z0.take len0) HL0.out (Nat.le_refl _) h0 S0_1.out.rd S0_1.out.lt x1 lo1 hi1 HC.out).mono ?_
  rintro e w2 ⟨rfl, hb⟩
  have S0_2 := Lib.hid (S0_1.out.below hb S0_1.out.lt)
  have B2 := Lib.hid (B1.out.trans (hb.mono B1.out.size))
  clear hb
  go_wp2_with fail
  go_at_call 23
  refine (toInt64S_any a0 len0 cap0 z0 _ (W0.out.below B2.out) h0).mono ?_
  rintro e w3 ⟨gX0, rfl, hr, hg, hb⟩
  rw [HL0.out] at hr ⊢
  have B3 := Lib.hid (B2.out.trans (hb.mono B2.out.size))
  have ge_X0 : w.heap.size ≤ gX0 := by have := B2.out.size; omega
  have X0_3 := Lib.hid hr
  clear hr hb hg
  go_wp2_with fail
  go_at_call 38
  refine (implUn_no _ gX0 len0 len0 (z0.take len0) HL0.out (Nat.le_refl _) h0 X0_3.out.rd X0_3.out.lt x1 lo1 hi1 HC.out).mono ?_
  rintro e w4 ⟨rfl, hb⟩
  have X0_4 := Lib.hid (X0_3.out.below hb X0_3.out.lt)
  have B4 := Lib.hid (B3.out.trans (hb.mono B3.out.size))
  clear hb
  go_wp2_with fail
  go_at_call 25
  refine (eqInt64S_any _ _ _ _ _ _ [] [] _ rfl rfl (.inl rfl) (.inl rfl) (by first | omega | simp) (by first | omega | simp)).mono ?_
  rintro e w5 ⟨rfl, hd⟩
  rw [eqB_self]
  have hb : Below w4.heap.size w4 w5 := hd.below
  have X0_5 := Lib.hid (X0_4.out.below hb X0_4.out.lt)
  have B5 := Lib.hid (B4.out.trans (hb.mono B4.out.size))
  clear hb hd
  go_wp2_with fail
  go_at_call 23
  refine (toInt64S_any a0 len0 cap0 z0 _ (W0.out.below B5.out) h0).mono ?_
  rintro e w6 ⟨gE0, rfl, hr, hg, hb⟩
  rw [HL0.out] at hr ⊢
  have X0_6 := Lib.hid (X0_5.out.below hb X0_5.out.lt)
  have B6 := Lib.hid (B5.out.trans (hb.mono B5.out.size))
  have ne_E0_X0 : gE0 ≠ gX0 := by have := X0_5.out.lt; omega
  have ge_E0 : w.heap.size ≤ gE0 := by have := B5.out.size; omega
  have E0_6 := Lib.hid hr
  clear hr hb hg
  go_wp2_with fail
  go_at_call 25
  refine (eqInt64S_any _ _ _ _ _ _ (z0.take len0) (z0.take len0) _ HL0.out HL0.out X0_6.out.at' E0_6.out.at' (by first | omega | simp) (by first | omega | simp)).mono ?_
  rintro e w7 ⟨rfl, hd⟩
  rw [eqB_self]
  have hb : Below w6.heap.size w6 w7 := hd.below
  have X0_7 := Lib.hid (X0_6.out.below hb X0_6.out.lt)
  have E0_7 := Lib.hid (E0_6.out.below hb E0_6.out.lt)
  have B7 := Lib.hid (B6.out.trans (hb.mono B6.out.size))
  clear hb hd
  go_wp2_with fail
  go_at_call 39
  refine (mark_any _ gX0 len0 len0 (z0.take len0) _ HL0.out h0 (by omega) (by omega) X0_7.out).mono ?_
  rintro e w8 ⟨rfl, _, ht⟩
  have B8 := Lib.hid (B7.out.trans (ht.below ge_X0 B7.out.size))
  clear ht
  go_wp2_with fail
  go_at_call 25
  refine (eqInt64S_any _ _ _ _ _ _ [] [] _ rfl rfl (.inl rfl) (.inl rfl) (by first | omega | simp) (by first | omega | simp)).mono ?_
  rintro e w9 ⟨rfl, hd⟩
  rw [eqB_self]
  have hb : Below w8.heap.size w8 w9 := hd.below
  have B9 := Lib.hid (B8.out.trans (hb.mono B8.out.size))
  clear hb hd
  go_wp2_with fail
  go_at_call 39
  refine (mark_nil _ _ _ _).mono ?_
  rintro e w' ⟨rfl, rfl⟩
  go_wp2_with fail
  go_at_call 40
  refine (held_nil _ _ _ _).mono ?_
  rintro e w' ⟨rfl, rfl⟩
  go_wp2_with fail
  go_at_call 23
  refine (toInt64S_any a0 len0 cap0 z0 _ (W0.out.below B9.out) h0).mono ?_
  rintro e w10 ⟨gT0, rfl, hr, hg, hb⟩
  rw [HL0.out] at hr ⊢
  have B10 := Lib.hid (B9.out.trans (hb.mono B9.out.size))
  have ge_T0 : w.heap.size ≤ gT0 := by have := B9.out.size; omega
  have T0_10 := Lib.hid hr
  clear hr hb hg
  go_wp2_with fail
  go_at_call 38
  refine (implUn_no _ gT0 len0 len0 (z0.take len0) HL0.out (Nat.le_refl _) h0 T0_10.out.rd T0_10.out.lt x1 lo1 hi1 HC.out).mono ?_
  rintro e w11 ⟨rfl, hb⟩
  have T0_11 := Lib.hid (T0_10.out.below hb T0_10.out.lt)
  have B11 := Lib.hid (B10.out.trans (hb.mono B10.out.size))
  clear hb
  go_wp2_with fail
  go_at_call 25
  refine (eqInt64S_any _ _ _ _ _ _ [] [] _ rfl rfl (.inl rfl) (.inl rfl) (by first | omega | simp) (by first | omega | simp)).mono ?_
  rintro e w12 ⟨rfl, hd⟩
  rw [eqB_self]
  have hb : Below w11.heap.size w11 w12 := hd.below
  have T0_12 := Lib.hid (T0_11.out.below hb T0_11.out.lt)
  have B12 := Lib.hid (B11.out.trans (hb.mono B11.out.size))
  clear hb hd
  go_wp2_with fail
  go_at_call 40
  refine (held_nil _ _ _ _).mono ?_
  rintro e w' ⟨rfl, rfl⟩
  go_wp2
  go_ret
  exact ⟨rfl, B12.out⟩

set_option maxHeartbeats 8000000 in
set_option maxRecDepth 100000 in
theorem unlikeList_walk_yes (a0 : Option Addr) (len0 cap0 : Nat) (z0 : List Int) (x1 : Int) (w : World) (w0 : IsRow .i64 w a0 len0 cap0 z0) (wf1 : (Lit.int .i64 x1).wf = true) (h0 : len0 ≤ 1048576) (hc : unB (z0.take len0) x1 = true) :
    Calls Try.prog 8 #[.slice a0 len0 cap0, .int .i64 x1] w fun e w' => e = .returned (.bool true) ∧ Below w.heap.size w w' := by
  have hlz0 := w0.len
  have HLm0 : len0 ≤ 9223372036854775807 := by
    have := w0; rcases this with ⟨_, h, _, _⟩ | ⟨_, _, h1, h2, _⟩ <;> (try simp only [maxLen] at *) <;> omega
  have W0 := Lib.hid w0; clear w0
  have HL0 := Lib.hid (take_len hlz0)
  clear hlz0
  have bd1 : -9223372036854775808 ≤ x1 ∧ x1 ≤ 9223372036854775807 := by simpa [Lit.wf, IntKind.min, IntKind.max, IntKind.signed, IntKind.bits] using wf1
  obtain ⟨lo1, hi1⟩ := bd1
  clear wf1
  have hbdl0 := unOut_len hc
  obtain ⟨m0, hm0⟩ : ∃ m, ((unS (z0.take len0) x1.toNat ((z0.take len0).length / x1.toNat)).1).length = m := ⟨_, rfl⟩
  rw [hm0] at hbdl0
  have HR0 := Lib.hid hm0; clear hm0
  obtain ⟨LL0, hLL0⟩ : ∃ l, (unS (z0.take len0) x1.toNat ((z0.take len0).length / x1.toNat)).1 = l := ⟨_, rfl⟩
  have HLL0 := Lib.hid hLL0; clear hLL0
  have HRL0 : Hid (LL0.length = m0) := Lib.hid (by rw [← HLL0.out]; exact HR0.out)
  have HC := Lib.hid hc; clear hc
  go_enter Try.func8, Try.ntmps8
  have B0 := Lib.hid (Below.refl w.heap.size w)
  go_wp2_with fail
  go_at_call 23
  refine (toInt64S_any a0 len0 cap0 z0 _ (W0.out.below B0.out) h0).mono ?_
  rintro e w1 ⟨gS0, rfl, hr, hg, hb⟩
  rw [HL0.out] at hr ⊢
  have B1 := Lib.hid (B0.out.trans (hb.mono B0.out.size))
  have ge_S0 : w.heap.size ≤ gS0 := by have := B0.out.size; omega
  have S0_1 := Lib.hid hr
  clear hr hb hg
  go_wp2_with fail
  go_at_call 37
  refine (specUn_yes _ gS0 len0 len0 (z0.take len0) HL0.out (Nat.le_refl _) h0 S0_1.out.rd S0_1.out.lt x1 lo1 hi1 HC.out).mono ?_
  rintro e w2 ⟨gV0, cV0, rfl, hr0, hg0, hb⟩
  rw [HLL0.out] at hr0
  rw [HR0.out]
  have S0_2 := Lib.hid (S0_1.out.below hb S0_1.out.lt)
  have B2 := Lib.hid (B1.out.trans (hb.mono B1.out.size))
  have ne_V0_S0 : gV0 ≠ gS0 := by have := S0_1.out.lt; omega
  have ge_V0 : w.heap.size ≤ gV0 := by have := B1.out.size; omega
  have V0_2 := Lib.hid hr0
  clear hb hr0 hg0
  go_wp2_with fail
  go_at_call 23
  refine (toInt64S_any a0 len0 cap0 z0 _ (W0.out.below B2.out) h0).mono ?_
  rintro e w3 ⟨gX0, rfl, hr, hg, hb⟩
  rw [HL0.out] at hr ⊢
  have V0_3 := Lib.hid (V0_2.out.below hb V0_2.out.lt)
  have B3 := Lib.hid (B2.out.trans (hb.mono B2.out.size))
  have ne_X0_V0 : gX0 ≠ gV0 := by have := V0_2.out.lt; omega
  have ge_X0 : w.heap.size ≤ gX0 := by have := B2.out.size; omega
  have X0_3 := Lib.hid hr
  clear hr hb hg
  go_wp2_with fail
  go_at_call 38
  refine (implUn_yes _ gX0 len0 len0 (z0.take len0) HL0.out (Nat.le_refl _) h0 X0_3.out.rd X0_3.out.lt x1 lo1 hi1 HC.out).mono ?_
  rintro e w4 ⟨gG0, cG0, rfl, hr0, hg0, hb⟩
  rw [HLL0.out] at hr0
  rw [HR0.out]
  have V0_4 := Lib.hid (V0_3.out.below hb V0_3.out.lt)
  have X0_4 := Lib.hid (X0_3.out.below hb X0_3.out.lt)
  have B4 := Lib.hid (B3.out.trans (hb.mono B3.out.size))
  have ne_G0_V0 : gG0 ≠ gV0 := by have := V0_3.out.lt; omega
  have ne_G0_X0 : gG0 ≠ gX0 := by have := X0_3.out.lt; omega
  have ge_G0 : w.heap.size ≤ gG0 := by have := B3.out.size; omega
  have G0_4 := Lib.hid hr0
  clear hb hr0 hg0
  go_wp2_with fail
  go_at_call 25
  refine (eqInt64S_any _ _ _ _ _ _ LL0 LL0 _ HRL0.out HRL0.out G0_4.out.at' V0_4.out.at' (by first | omega | simp) (by first | omega | simp)).mono ?_
  rintro e w5 ⟨rfl, hd⟩
  rw [eqB_self]
  have hb : Below w4.heap.size w4 w5 := hd.below
  have V0_5 := Lib.hid (V0_4.out.below hb V0_4.out.lt)
  have X0_5 := Lib.hid (X0_4.out.below hb X0_4.out.lt)
  have G0_5 := Lib.hid (G0_4.out.below hb G0_4.out.lt)
  have B5 := Lib.hid (B4.out.trans (hb.mono B4.out.size))
  clear hb hd
  go_wp2_with fail
  go_at_call 23
  refine (toInt64S_any a0 len0 cap0 z0 _ (W0.out.below B5.out) h0).mono ?_
  rintro e w6 ⟨gE0, rfl, hr, hg, hb⟩
  rw [HL0.out] at hr ⊢
  have V0_6 := Lib.hid (V0_5.out.below hb V0_5.out.lt)
  have X0_6 := Lib.hid (X0_5.out.below hb X0_5.out.lt)
  have G0_6 := Lib.hid (G0_5.out.below hb G0_5.out.lt)
  have B6 := Lib.hid (B5.out.trans (hb.mono B5.out.size))
  have ne_E0_V0 : gE0 ≠ gV0 := by have := V0_5.out.lt; omega
  have ne_E0_X0 : gE0 ≠ gX0 := by have := X0_5.out.lt; omega
  have ne_E0_G0 : gE0 ≠ gG0 := by have := G0_5.out.lt; omega
  have ge_E0 : w.heap.size ≤ gE0 := by have := B5.out.size; omega
  have E0_6 := Lib.hid hr
  clear hr hb hg
  go_wp2_with fail
  go_at_call 25
  refine (eqInt64S_any _ _ _ _ _ _ (z0.take len0) (z0.take len0) _ HL0.out HL0.out X0_6.out.at' E0_6.out.at' (by first | omega | simp) (by first | omega | simp)).mono ?_
  rintro e w7 ⟨rfl, hd⟩
  rw [eqB_self]
  have hb : Below w6.heap.size w6 w7 := hd.below
  have V0_7 := Lib.hid (V0_6.out.below hb V0_6.out.lt)
  have X0_7 := Lib.hid (X0_6.out.below hb X0_6.out.lt)
  have G0_7 := Lib.hid (G0_6.out.below hb G0_6.out.lt)
  have E0_7 := Lib.hid (E0_6.out.below hb E0_6.out.lt)
  have B7 := Lib.hid (B6.out.trans (hb.mono B6.out.size))
  clear hb hd
  go_wp2_with fail
  go_at_call 39
  refine (mark_any _ gX0 len0 len0 (z0.take len0) _ HL0.out h0 (by omega) (by omega) X0_7.out).mono ?_
  rintro e w8 ⟨rfl, _, ht⟩
  have V0_8 := Lib.hid (V0_7.out.touch ht (Ne.symm ne_X0_V0))
  have G0_8 := Lib.hid (G0_7.out.touch ht ne_G0_X0)
  have B8 := Lib.hid (B7.out.trans (ht.below ge_X0 B7.out.size))
  clear ht
  go_wp2_with fail
  go_at_call 25
  refine (eqInt64S_any _ _ _ _ _ _ LL0 LL0 _ HRL0.out HRL0.out G0_8.out.at' V0_8.out.at' (by first | omega | simp) (by first | omega | simp)).mono ?_
  rintro e w9 ⟨rfl, hd⟩
  rw [eqB_self]
  have hb : Below w8.heap.size w8 w9 := hd.below
  have V0_9 := Lib.hid (V0_8.out.below hb V0_8.out.lt)
  have G0_9 := Lib.hid (G0_8.out.below hb G0_8.out.lt)
  have B9 := Lib.hid (B8.out.trans (hb.mono B8.out.size))
  clear hb hd
  go_wp2_with fail
  go_at_call 39
  refine (mark_any _ gG0 m0 cG0 LL0 _ HRL0.out (by omega) (by omega) (by omega) G0_9.out).mono ?_
  rintro e w10 ⟨rfl, hmk, ht⟩
  have V0_10 := Lib.hid (V0_9.out.touch ht (Ne.symm ne_G0_V0))
  have B10 := Lib.hid (B9.out.trans (ht.below ge_G0 B9.out.size))
  have G0_10 := Lib.hid hmk
  clear ht hmk
  go_wp2_with fail
  go_at_call 40
  refine (held_any _ gG0 m0 cG0 _ (by omega) (by omega) (by omega) (G0_10.out.rd)).mono ?_
  rintro e w' ⟨rfl, rfl⟩
  go_wp2_with fail
  go_at_call 23
  refine (toInt64S_any a0 len0 cap0 z0 _ (W0.out.below B10.out) h0).mono ?_
  rintro e w11 ⟨gT0, rfl, hr, hg, hb⟩
  rw [HL0.out] at hr ⊢
  have V0_11 := Lib.hid (V0_10.out.below hb V0_10.out.lt)
  have G0_11 := Lib.hid (G0_10.out.below hb G0_10.out.lt)
  have B11 := Lib.hid (B10.out.trans (hb.mono B10.out.size))
  have ne_T0_V0 : gT0 ≠ gV0 := by have := V0_10.out.lt; omega
  have ne_T0_G0 : gT0 ≠ gG0 := by have := G0_10.out.lt; omega
  have ge_T0 : w.heap.size ≤ gT0 := by have := B10.out.size; omega
  have T0_11 := Lib.hid hr
  clear hr hb hg
  go_wp2_with fail
  go_at_call 38
  refine (implUn_yes _ gT0 len0 len0 (z0.take len0) HL0.out (Nat.le_refl _) h0 T0_11.out.rd T0_11.out.lt x1 lo1 hi1 HC.out).mono ?_
  rintro e w12 ⟨gH0, cH0, rfl, hr0, hg0, hb⟩
  rw [HLL0.out] at hr0
  rw [HR0.out]
  have V0_12 := Lib.hid (V0_11.out.below hb V0_11.out.lt)
  have G0_12 := Lib.hid (G0_11.out.below hb G0_11.out.lt)
  have T0_12 := Lib.hid (T0_11.out.below hb T0_11.out.lt)
  have B12 := Lib.hid (B11.out.trans (hb.mono B11.out.size))
  have ne_H0_V0 : gH0 ≠ gV0 := by have := V0_11.out.lt; omega
  have ne_H0_G0 : gH0 ≠ gG0 := by have := G0_11.out.lt; omega
  have ne_H0_T0 : gH0 ≠ gT0 := by have := T0_11.out.lt; omega
  have ge_H0 : w.heap.size ≤ gH0 := by have := B11.out.size; omega
  have H0_12 := Lib.hid hr0
  clear hb hr0 hg0
  go_wp2_with fail
  go_at_call 25
  refine (eqInt64S_any _ _ _ _ _ _ LL0 LL0 _ HRL0.out HRL0.out H0_12.out.at' V0_12.out.at' (by first | omega | simp) (by first | omega | simp)).mono ?_
  rintro e w13 ⟨rfl, hd⟩
  rw [eqB_self]
  have hb : Below w12.heap.size w12 w13 := hd.below
  have V0_13 := Lib.hid (V0_12.out.below hb V0_12.out.lt)
  have G0_13 := Lib.hid (G0_12.out.below hb G0_12.out.lt)
  have T0_13 := Lib.hid (T0_12.out.below hb T0_12.out.lt)
  have H0_13 := Lib.hid (H0_12.out.below hb H0_12.out.lt)
  have B13 := Lib.hid (B12.out.trans (hb.mono B12.out.size))
  clear hb hd
  go_wp2_with fail
  go_at_call 40
  refine (held_any _ gG0 m0 cG0 _ (by omega) (by omega) (by omega) (G0_13.out.rd)).mono ?_
  rintro e w' ⟨rfl, rfl⟩
  go_wp2
  go_ret
  exact ⟨rfl, B13.out⟩

set_option maxHeartbeats 4000000 in
theorem unlikeList_walk (a0 : Option Addr) (len0 cap0 : Nat) (z0 : List Int) (x1 : Int) (w : World) (w0 : IsRow .i64 w a0 len0 cap0 z0) (wf1 : (Lit.int .i64 x1).wf = true) :
    Calls Try.prog 8 #[.slice a0 len0 cap0, .int .i64 x1] w fun e w' => e = .returned (.bool true) ∧ Below w.heap.size w w' := by
  by_cases h0 : len0 ≤ 1048576
  case neg =>
    clear w0
    go_enter Try.func8, Try.ntmps8
    go_wp2
    go_ret
    exact ⟨rfl, .refl _ _⟩
  cases hc : unB (z0.take len0) x1
  · exact unlikeList_walk_no a0 len0 cap0 z0 x1 w w0 wf1 h0 hc
  · exact unlikeList_walk_yes a0 len0 cap0 z0 x1 w w0 wf1 h0 hc

end Go.Proofs.Ytncmhinpjkkfkaa
