/-
  Walks: the law PieceEnds: the reference's function, rule 0. Conditions: none.
-/
import Derived.Test.YtncmhinpjkkfkaaK28
namespace Go.Proofs.Ytncmhinpjkkfkaa
open Go Go.RowKit

set_option maxHeartbeats 16000000 in
set_option maxRecDepth 100000 in
theorem specPc0 (w : World) (g n c : Nat) (js : List J) (hn : js.length = n) (_hcap : n ≤ c) (hm : n ≤ 1048576) (hj : JRd w g 0 js) (hg : g < w.heap.size) (hjb : jobsB js = true) :
    Calls Try.prog 59 #[.slice (some ⟨g, 0, none⟩) n c, .int .i64 0] w (PcQ js 0 w) := by
  obtain ⟨n1, n2, _⟩ := jobsB_of hjb
  rw [hn] at n1 n2
  have hat := jobsB_at hjb
  rw [hn] at hat
  have hrs : ∀ k, k ≤ n → (0 ≤ relK js k ∧ relK js k ≤ 10000) ∧ 0 ≤ sumT js k ∧ sumT js k ≤ 240000 := fun k hk => by
    have h1 := relK_bd (n := n) (fun i hi => (hat i hi).2.1) k hk
    have h2 := sumT_bd (n := n) (fun i hi => (hat i hi).1) k hk
    omega
  have hpk : ∀ k, PcK n k (pcS js 0 n k) := pcK (fun i hi => (hat i hi).1)
  have hpc : pcB js 0 = decide (relK js n + sumT js n ≤ 10000) := by
    unfold pcB; rw [hjb, hn]
    rw [show inB 0 0 1 = true by decide]; simp
  have hT : ((pcT js n : Nat) : Int) = relK js n + sumT js n := by
    have := hrs n (Nat.le_refl _)
    unfold pcT; omega
  have hfn : ∀ w', ¬ relK js n + sumT js n ≤ 10000 → Below w.heap.size w w' → PcQ js 0 w (.returned (.tuple #[.slice none 0 0, .slice none 0 0, .bool false])) w' := fun w' h hb => by
    unfold PcQ
    rw [if_neg (by rw [hpc, decide_eq_false h]; decide)]
    exact ⟨rfl, hb⟩
  have hlate : ∀ k, k ≤ pcT js n → 0 < Pcs.Env.sumK (pcS js 0 n k).left n → k < pcT js n := fun k => pc_late (fun i hi => (hat i hi).1) (fun i hi => (hat i hi).2.1)
  have hdone : ∀ k, k ≤ pcT js n → ¬ 0 < Pcs.Env.sumK (pcS js 0 n k).left n → (pcS js 0 n (pcT js n)).ends = (pcS js 0 n k).ends ∧ (pcS js 0 n (pcT js n)).pieces = (pcS js 0 n k).pieces := fun k => pc_done (fun i hi => (hat i hi).1)
  have hfy : ∀ w' G0 c0 G1 c1 A P, relK js n + sumT js n ≤ 10000 → (pcS js 0 n (pcT js n)).ends = A → (pcS js 0 n (pcT js n)).pieces = P → Rw w' G0 c0 A → Rw w' G1 c1 P → w.heap.size ≤ G0 → w.heap.size ≤ G1 → G0 ≠ G1 → Below w.heap.size w w' →
      PcQ js 0 w (.returned (.tuple #[.slice (some ⟨G0, 0, none⟩) n c0, .slice (some ⟨G1, 0, none⟩) n c1, .bool true])) w' := fun w' G0 c0 G1 c1 A P h e1 e2 r0 r1 g0 g1 hne hb => by
    unfold PcQ
    rw [if_pos (by rw [hpc, decide_eq_true h])]
    have hk := hpk (pcT js n)
    subst hn
    refine ⟨G0, c0, G1, c1, ?_, ?_, ?_, g0, g1, hne.symm, hb⟩
    · unfold pcE pcP; rw [hk.l2, hk.l3]
    · unfold pcE; rw [e1]; exact r0
    · unfold pcP; rw [e2]; exact r1
  have HN := Lib.hid hn; have HJ := Lib.hid hj; have HJB := Lib.hid hjb; have HAT := Lib.hid hat; have HRS := Lib.hid hrs; have HPK := Lib.hid hpk; have HT := Lib.hid hT; have HFN := Lib.hid hfn; have HFY := Lib.hid hfy; have HLATE := Lib.hid hlate; have HDONE := Lib.hid hdone
  have HRB : Hid (inB 0 0 1 = true) := Lib.hid (by decide)
  clear hn hj hjb hat hrs hpk hpc hT hfn hfy hlate hdone
  go_enter Try.func59, Try.ntmps59
  go_wp2_with (first
    | (go_at_call 77; refine (l02Jobs_any _ n c js _ HN.out hm (.inr ⟨g, 0, rfl, HJ.out⟩)).mono ?_; rintro e w' ⟨rfl, rfl⟩; rw [HJB.out])
    | (go_at_call 69; refine (l00In_any _ 0 1 _).mono ?_; rintro e w' ⟨rfl, rfl⟩; rw [HRB.out]))
  have RO0 := Lib.hid (rw_nil (row_fresh w))
  have b0 : Hid (Below w.heap.size w (w.alloc (.cells #[] 2))) := Lib.hid (below_alloc (Below.refl _ _) _)
  go_loopw [7, 8, 9, 10] (fun a b o i wr => ∃ k G cap : Nat, k ≤ n ∧ i = .int .i64 k ∧ a = .int .i64 (relK js k) ∧ b = .int .i64 (sumT js k) ∧ o = .slice (some ⟨G, 0, none⟩) k cap ∧ Rw wr G cap (tmK js k) ∧ Below w.heap.size w wr ∧ w.heap.size ≤ G) (fun _ _ _ i _ => n - (intOf i).toNat)
  case atStart => exact ⟨0, w.heap.size, 0, Nat.zero_le _, rfl, rfl, rfl, rfl, RO0.out, b0.out, Nat.le_refl _⟩
  case round =>
    obtain ⟨k, G, cap, hk, rfl, rfl, rfl, rfl, hro, hbk, hBG⟩ := hrel
    have HO := Lib.hid hro; have HBk := Lib.hid hbk
    clear hro hbk RO0 b0
    have HLO := Lib.hid (tmK_len js k)
    by_cases hlt : k < n
    · obtain ⟨c0, c1, c2, c3⟩ := JRd.at1 HN.out (HJ.out.below HBk.out hg) k hlt
      obtain ⟨⟨t0, t1⟩, ⟨r0, r1⟩, _⟩ := HAT.out k hlt
      obtain ⟨⟨b1, b2⟩, b3, b4⟩ := HRS.out k (by omega)
      have hr1 : relK js (k + 1) = max (relK js k) (jN js k).rel := rfl
      have hs1 : sumT js (k + 1) = sumT js k + (jN js k).time := rfl
      have hm1 : tmK js (k + 1) = tmK js k ++ [(jN js k).time] := rfl
      have HR1 := Lib.hid hr1; have HS1 := Lib.hid hs1; have HM1 := Lib.hid hm1
      clear hr1 hs1 hm1
      generalize (jN js k).time = t at *
      generalize (jN js k).rel = r at *
      generalize (jN js k).due = u at *
      generalize (jN js k).wt = v at *
      generalize relK js k = rk at *
      generalize sumT js k = sk at *
      generalize tmK js k = os at *
      have x2 : IntKind.i64.wrap (sk + t) = sk + t := IntWalk.i64_in _ (by omega)
      go_wp2_with (first
        | (go_at_call 97; refine (l00Max_any _ _ _).mono ?_; rintro e w' ⟨rfl, rfl⟩)
        | (at_builtin; refine push_int _ rfl _ _ rfl G cap os k t (by rfl) HLO.out HO.out (by rfl) (by omega) ?_; intro G' cap' w4 hO4 htc hat; obtain ⟨hb4, hG4, hrest⟩ := push_rest HBk.out hBG HO.out.lt htc hat; have HO4 := Lib.hid hO4; have HB4 := Lib.hid hb4; clear hO4 htc hat hrest hb4))
      go_roundw
      case rel => exact ⟨k + 1, G', cap', by omega, by go_num, by rw [HR1.out], by rw [HS1.out], rfl, by rw [HM1.out]; exact HO4.out, HB4.out, hG4⟩
      case measure => simp [intOf]; omega
    · obtain rfl : n = k := by omega
      obtain ⟨⟨b1, b2⟩, b3, b4⟩ := HRS.out n (by omega)
      have HZS : Hid (pcS js 0 n 0 = ⟨tmK js n, List.replicate n 0, List.replicate n 0, -1⟩) := Lib.hid rfl
      obtain ⟨rk, hrk⟩ : ∃ v, relK js n = v := ⟨_, rfl⟩
      obtain ⟨sk, hsk⟩ : ∃ v, sumT js n = v := ⟨_, rfl⟩
      have hTT := HT.out
      rw [hrk, hsk] at hTT
      have hFN := HFN.out; have hFY := HFY.out
      rw [hrk, hsk] at hFN hFY
      rw [hrk] at b1 b2; rw [hsk] at b3 b4
      have HTT := Lib.hid hTT; have HFN' := Lib.hid hFN; have HFY' := Lib.hid hFY
      rw [hrk, hsk]
      clear hrk hsk hTT hFN hFY HFN HFY HT HRS
      have cw : IntKind.i64.wrap (rk + sk) = rk + sk := IntWalk.i64_in _ (by omega)
      by_cases hsm : rk + sk ≤ 10000
      case neg =>
        have hgt : 10000 < rk + sk := by omega
        go_wp2
        go_ret3
        exact HFN'.out _ hsm HBk.out
      have hgt : ¬ 10000 < rk + sk := by omega
      obtain ⟨tm, htm⟩ : ∃ v, tmK js n = v := ⟨_, rfl⟩
      rw [htm] at HO HLO HZS
      clear htm hlt
      go_wp2_with (first
        | (at_make; refine wp_make rfl (.tmp 59) 22 rfl 2 (.int .i64 0) 8 Try.underlying22 Try.info2 rfl n .i64 _ rfl rfl (by omega) (by unfold maxLen; omega) ?_; intro w1 hrow1 hbel1; have RA := Lib.hid (rw_zero hrow1); have BA := Lib.hid hbel1; clear hrow1 hbel1)
        | (at_make; refine wp_make rfl (.tmp 62) 22 rfl 2 (.int .i64 0) 8 Try.underlying22 Try.info2 rfl n .i64 _ rfl rfl (by omega) (by unfold maxLen; omega) ?_; intro w2 hrow2 hbel2; have RB := Lib.hid (rw_zero hrow2); have BB := Lib.hid hbel2; clear hrow2 hbel2))
      have l1 := HO.out.lt
      have l2 := RA.out.lt
      have l0 := HBk.out.size
      obtain ⟨GA, hGA⟩ : ∃ G, wr.heap.size = G := ⟨_, rfl⟩
      obtain ⟨GB, hGB⟩ : ∃ G, w1.heap.size = G := ⟨_, rfl⟩
      have HO2 : Hid (Rw w2 G cap tm) := Lib.hid ((HO.out.below BA.out HO.out.lt).below BB.out (by omega))
      have HA2 : Hid (Rw w2 GA n (List.replicate n 0)) := Lib.hid (by rw [← hGA]; exact RA.out.below BB.out RA.out.lt)
      have HB2 : Hid (Rw w2 GB n (List.replicate n 0)) := Lib.hid (by rw [← hGB]; exact RB.out)
      have HW2 : Hid (Below w.heap.size w w2) := Lib.hid (HBk.out.trans ((BA.out.trans (BB.out.mono BA.out.size)).mono HBk.out.size))
      rw [hGA] at l1 l2 l0; rw [hGB] at l2
      rw [hGA, hGB]
      have nLA : G ≠ GA := by omega
      have nLB : G ≠ GB := by omega
      have nAB : GA ≠ GB := by omega
      have gA : w.heap.size ≤ GA := l0
      have gB : w.heap.size ≤ GB := by omega
      obtain ⟨D, hD⟩ : ∃ D, pcT js n = D := ⟨_, rfl⟩
      rw [hD] at HTT HFY' HLATE HDONE
      clear hGA hGB hD RA RB BA BB HO HBk l0 l1 l2
      go_loopw [13, 14, 15, 16] (fun b t _ _ wr => ∃ (k : Nat) (L A P : List Int) (la : Int), k ≤ D ∧ pcS js 0 n k = ⟨L, A, P, la⟩ ∧ t = .int .i64 k ∧ b = .int .i64 la ∧ Rw wr G cap L ∧ Rw wr GA n A ∧ Rw wr GB n P ∧ Below w.heap.size w wr) (fun _ t _ _ _ => D - (intOf t).toNat)
      case atStart => exact ⟨0, _, _, _, _, Nat.zero_le _, HZS.out, rfl, rfl, HO2.out, HA2.out, HB2.out, HW2.out⟩
      case round =>
        clear HO2 HA2 HB2 HW2 HZS
        obtain ⟨k, L, A, P, la, hk, hx, rfl, rfl, hl, ha, hp, hbk⟩ := hrel
        by_cases hlt : (k : Int) < rk + sk
        · skip
          have pk := HPK.out k
          rw [hx] at pk
          have HLL : Hid (L.length = n) := Lib.hid pk.l1
          have HAL : Hid (A.length = n) := Lib.hid pk.l2
          have HPL : Hid (P.length = n) := Lib.hid pk.l3
          have HLB : Hid (∀ i, i < n → 0 ≤ L.getD i 0 ∧ L.getD i 0 ≤ 10000) := Lib.hid pk.lb
          have HPB : Hid (∀ i, i < n → 0 ≤ P.getD i 0 ∧ P.getD i 0 ≤ k) := Lib.hid pk.pb
          obtain ⟨la0, la1⟩ : -1 ≤ la ∧ la < n := pk.la
          have HBC : Hid (∀ q, (pcEnv js 0 n).bestK L k q = -1 ∨ ∃ j : Nat, j < q ∧ (pcEnv js 0 n).bestK L k q = j) := Lib.hid (fun q => by
            rcases Pcs.Env.bestK_cases (pcEnv js 0 n) L k q with h | ⟨j, h1, h2, _⟩
            · exact .inl h.1
            · exact .inr ⟨j, h1, h2⟩)
          have HB0 : Hid ((pcEnv js 0 n).bestK L k 0 = -1) := Lib.hid rfl
          have HNO : Hid (∀ q, (L.getD q 0 = 0 ∨ (k : Int) < (jN js q).rel) → (pcEnv js 0 n).bestK L k (q + 1) = (pcEnv js 0 n).bestK L k q) := Lib.hid (fun q h => bk_no h)
          have HFI : Hid (∀ q, L.getD q 0 ≠ 0 → (jN js q).rel ≤ k → (pcEnv js 0 n).bestK L k q = -1 → (pcEnv js 0 n).bestK L k (q + 1) = q) := Lib.hid (fun q h h2 h3 => bk_first h h2 h3)
          have HZ : Hid (∀ q j : Nat, L.getD q 0 ≠ 0 → (jN js q).rel ≤ k → (pcEnv js 0 n).bestK L k q = j → (pcEnv js 0 n).bestK L k (q + 1) = if L.getD q 0 < L.getD j 0 then (q : Int) else j) := Lib.hid (fun q j h h2 h3 => bk_zero h h2 h3)
          have HNO1 : Hid ((pcEnv js 0 n).bestK L k n = -1 → pcS js 0 n (k + 1) = ⟨L, A, P, -1⟩) := Lib.hid (fun h => pc_no hx h)
          have HYES1 : Hid (∀ j : Nat, (pcEnv js 0 n).bestK L k n = j → pcS js 0 n (k + 1) = ⟨L.set j (L.getD j 0 - 1), A.set j (k + 1), if (j : Int) = la then P else P.set j (P.getD j 0 + 1), j⟩) := Lib.hid (fun j h => pc_yes hx h)
          have HL := Lib.hid hl; have HA := Lib.hid ha; have HP := Lib.hid hp; have HBk := Lib.hid hbk; have HX := Lib.hid hx
          clear hl ha hp hbk hx pk
          generalize (pcEnv js 0 n).bestK L (k : Int) = bk at *
          go_wp2
          obtain ⟨wo, rfl⟩ : ∃ wo : World, wo = wr := ⟨_, rfl⟩
          go_loopw [15, 16] (fun a i w3 => ∃ (q : Nat) (b : Int), q ≤ n ∧ i = .int .i64 q ∧ a = .int .i64 b ∧ bk q = b ∧ Dr wo w3) (fun _ i _ => n - (intOf i).toNat)
          case atStart => exact ⟨0, -1, Nat.zero_le _, rfl, rfl, HB0.out, .refl _⟩
          case round =>
          obtain ⟨q, b, hq, rfl, rfl, hqb, hd⟩ := hrel
          have HD := Lib.hid hd; have HQB := Lib.hid hqb
          clear hd hqb HB0
          by_cases hql : q < n
          · have cl := (HL.out.dr HD.out).cell q (by have := HLL.out; omega)
            obtain ⟨c0, c1, c2, c3⟩ := JRd.at1 HN.out (HJ.out.below (HBk.out.trans HD.out.below) hg) q hql
            obtain ⟨v, hv⟩ : ∃ v, L.getD q 0 = v := ⟨_, rfl⟩
            obtain ⟨r, hr⟩ : ∃ v, (jN js q).rel = v := ⟨_, rfl⟩
            obtain ⟨u, hu⟩ : ∃ v, (jN js q).due = v := ⟨_, rfl⟩
            rw [hv] at cl; rw [hr] at c1; rw [hu] at c2
            have HV := Lib.hid hv; have HR := Lib.hid hr; have HU := Lib.hid hu
            clear hv hr hu c0 c3
            by_cases h0 : v = 0
            · subst h0
              go_wp2
              go_roundw
              case rel => exact ⟨q + 1, b, by omega, by go_num, rfl, (HNO.out q (.inl HV.out)).trans HQB.out, HD.out⟩
              case measure => simp [intOf]; omega
            by_cases hrt : (k : Int) < r
            · go_wp2
              go_roundw
              case rel => exact ⟨q + 1, b, by omega, by go_num, rfl, (HNO.out q (.inr (by rw [HR.out]; exact hrt))).trans HQB.out, HD.out⟩
              case measure => simp [intOf]; omega
            have hv0 : Hid (L.getD q 0 ≠ 0) := Lib.hid (by rw [HV.out]; exact h0)
            have hr0 : Hid ((jN js q).rel ≤ k) := Lib.hid (by rw [HR.out]; omega)
            rcases HBC.out q with h | ⟨j, hj, h⟩
            · obtain rfl : b = -1 := HQB.out.symm.trans h
              have HH := Lib.hid h
              clear h
              go_wp2
              go_quiet (fail)
              go_wp2
              go_roundw
              case rel => exact ⟨q + 1, (q : Int), by omega, by go_num, rfl, HFI.out q hv0.out hr0.out HH.out, HD.out.drewN _⟩
              case measure => simp [intOf]; omega
            · obtain rfl : b = (j : Int) := HQB.out.symm.trans h
              have HH := Lib.hid h
              clear h
              have hjn : j < n := by omega
              have hjneg : ¬ (j : Int) < 0 := by omega
              have hjd : decide ((j : Int) < 0) = false := decide_eq_false hjneg
              have dl := (HL.out.dr HD.out).cell j (by have := HLL.out; omega)
              obtain ⟨e0, e1, e2, e3⟩ := JRd.at1 HN.out (HJ.out.below (HBk.out.trans HD.out.below) hg) j (by omega)
              obtain ⟨vj, hvj⟩ : ∃ v, L.getD j 0 = v := ⟨_, rfl⟩
              obtain ⟨uj, huj⟩ : ∃ v, (jN js j).due = v := ⟨_, rfl⟩
              rw [hvj] at dl; rw [huj] at e2
              have HVJ := Lib.hid hvj; have HUJ := Lib.hid huj
              clear hvj huj e0 e1 e3
              by_cases hc : v < vj
              · have hcd : decide (v < vj) = true := decide_eq_true hc
                go_wp2
                go_quiet (fail)
                go_wp2
                go_roundw
                case rel => exact ⟨q + 1, (q : Int), by omega, by go_num, rfl, by rw [HZ.out q j hv0.out hr0.out HH.out, HV.out, HVJ.out, if_pos (by omega)], HD.out.drewN _⟩
                case measure => simp [intOf]; omega
              · have hcd : decide (v < vj) = false := decide_eq_false hc
                go_wp2
                go_quiet (fail)
                go_wp2
                go_roundw
                case rel => exact ⟨q + 1, (j : Int), by omega, by go_num, rfl, by rw [HZ.out q j hv0.out hr0.out HH.out, HV.out, HVJ.out, if_neg (by omega)], HD.out.drewN _⟩
                case measure => simp [intOf]; omega
          obtain rfl : n = q := by omega
          clear hql
          rcases HBC.out n with h | ⟨j, hj, h⟩
          · obtain rfl : b = -1 := HQB.out.symm.trans h
            go_wp2
            go_roundw
            case rel => exact ⟨k + 1, _, _, _, _, by have := HTT.out; omega, HNO1.out h, by go_num, rfl, HL.out.dr HD.out, HA.out.dr HD.out, HP.out.dr HD.out, HBk.out.trans HD.out.below⟩
            case measure => have := HTT.out; simp [intOf]; omega
          · obtain rfl : b = (j : Int) := HQB.out.symm.trans h
            have hst := HYES1.out j h
            have hL3 := HL.out.dr HD.out
            have hA3 := HA.out.dr HD.out
            have hP3 := HP.out.dr HD.out
            have hW3 : Below w.heap.size w wr := HBk.out.trans HD.out.below
            obtain ⟨v0, v1⟩ := HLB.out j hj
            obtain ⟨p0, p1⟩ := HPB.out j hj
            have cl := hL3.cell j (by have := HLL.out; omega)
            have fl := hL3.free j
            obtain ⟨v, hv⟩ : ∃ v, L.getD j 0 = v := ⟨_, rfl⟩
            obtain ⟨p, hp⟩ : ∃ p, P.getD j 0 = p := ⟨_, rfl⟩
            rw [hv] at v0 v1 cl hst; rw [hp] at p0 p1 hst
            have xv : IntKind.i64.wrap (v - 1) = v - 1 := IntWalk.i64_in _ (by omega)
            have xk : IntKind.i64.wrap ((k : Int) + 1) = (k : Int) + 1 := IntWalk.i64_in _ (by omega)
            have xp : IntKind.i64.wrap (p + 1) = p + 1 := IntWalk.i64_in _ (by omega)
            have hL4 : Rw (wr.setCell ⟨G, j, none⟩ (.int .i64 (v - 1))) G cap (L.set j (v - 1)) := hL3.set j _
            have hA4 : Rw (wr.setCell ⟨G, j, none⟩ (.int .i64 (v - 1))) GA n A := hA3.past nLA.symm j _
            have hP4 : Rw (wr.setCell ⟨G, j, none⟩ (.int .i64 (v - 1))) GB n P := hP3.past nLB.symm j _
            have hW4 : Below w.heap.size w (wr.setCell ⟨G, j, none⟩ (.int .i64 (v - 1))) := hW3.setCell (p := ⟨G, j, none⟩) hBG _
            have ca := hA4.cell j (by have := HAL.out; omega)
            have fa := hA4.free j
            have hL5 := hL4.past nLA j (.int .i64 ((k : Int) + 1))
            have hA5 := hA4.set j ((k : Int) + 1)
            have hP5 := hP4.past nAB.symm j (.int .i64 ((k : Int) + 1))
            have hW5 := hW4.setCell (p := ⟨GA, j, none⟩) gA (.int .i64 ((k : Int) + 1))
            have cp := hP5.cell j (by have := HPL.out; omega)
            have fp := hP5.free j
            rw [hp] at cp
            have HL5 := Lib.hid hL5; have HA5 := Lib.hid hA5; have HP5 := Lib.hid hP5; have HW5 := Lib.hid hW5; have HST := Lib.hid hst
            clear hL3 hA3 hP3 hW3 hL4 hA4 hP4 hW4 hL5 hA5 hP5 hW5 hst hv hp
            by_cases hla : (j : Int) = la
            · subst hla
              go_wp2
              go_roundw
              case rel => exact ⟨k + 1, _, _, _, _, by have := HTT.out; omega, by rw [HST.out, if_pos rfl], by go_num, rfl, HL5.out, HA5.out, HP5.out, HW5.out⟩
              case measure => have := HTT.out; simp [intOf]; omega
            · go_wp2
              go_roundw
              case rel => exact ⟨k + 1, _, _, _, _, by have := HTT.out; omega, by rw [HST.out, if_neg hla], by go_num, rfl, HL5.out.past nLB j _, HA5.out.past nAB j _, HP5.out.set j _, HW5.out.setCell (p := ⟨GB, j, none⟩) gB _⟩
              case measure => have := HTT.out; simp [intOf]; omega
        · obtain rfl : D = k := by have := HTT.out; omega
          have HA := Lib.hid ha; have HP := Lib.hid hp; have HBk := Lib.hid hbk; have HX := Lib.hid hx
          clear hl ha hp hbk hx
          go_wp2
          go_ret3
          exact HFY'.out _ _ _ _ _ A P hsm (by rw [HX.out]) (by rw [HX.out]) HA.out HP.out gA gB nAB HBk.out
end Go.Proofs.Ytncmhinpjkkfkaa
