/-
  Walks: the law ReadComplex: the program's functions. Conditions: the library's table for trailing zeros and its two errors lie as their initialisers lay them; the library's variable MaxLen holds an int.
-/
import Derived.Test.YtjlbjlcficbdlaaDoorG3
import Derived.Test.YtjlbjlcficbdlaaDoorG4
set_option linter.unusedVariables false
set_option linter.unusedSimpArgs false
namespace Go.Proofs.YtjlbjlcficbdlaaDoor
open Go Go.RowKit Flo Fl

theorem C32_prd {ps : List (List UInt8)} (h : ∀ p ∈ ps, p.length = 16) : C32 (ps.map prd2) := by
  intro x hx
  obtain ⟨p, hp, rfl⟩ := List.mem_map.1 hx
  have := h p hp
  exact ⟨prd_lt (by rw [List.length_take, this]; rfl), prd_lt (by rw [List.length_drop, this])⟩

set_option maxHeartbeats 8000000 in
set_option maxRecDepth 100000 in
theorem implReadComplex_any (s : ByteArray) (w : World) (hs : s.size ≤ 1048576) (hT : Tz w) (hE : Errs w) (hM : MaxL w) : Calls Tryd.prog 31 #[.string s] w (RG 64 cV w (rc fb s.data.toList)) := by
  have R0 := Lib.hid (row_fresh w 64)
  have B0 := Lib.hid ((Below.refl w.heap.size w).alloc (Nat.le_refl _) (.cells #[] 64))
  have HT := Lib.hid hT; have HE := Lib.hid hE; have HM := Lib.hid (hM.below B0.out)
  clear hT hE hM
  by_cases hn : s.data.toList = n4
  · have HF : Hid (∀ w', Row w' w.heap.size 64 0 [] → Below w.heap.size w w' → RG 64 cV w (rc fb s.data.toList) (.returned (.tuple #[.slice (some ⟨w.heap.size, 0, none⟩) 0 0, .bool true])) w') :=
      Lib.hid (fun w' h1 h2 => RG.yes (vs := []) (by rw [hn]; exact rg_none) rfl h1 (Nat.le_refl _) h2)
    have HNN := Lib.hid hn
    have hcmp := (same_text (⟨n4.toArray⟩ : ByteArray) s).trans (decide_eq_true hn.symm)
    have hsz : (w.alloc (.cells #[] 64)).heap.size = w.heap.size + 1 := by simp
    have HSZ := Lib.hid hsz
    clear hn hsz
    obtain ⟨tn, htn⟩ : ∃ tn : ByteArray, (⟨n4.toArray⟩ : ByteArray) = tn := ⟨_, rfl⟩
    rw [htn] at hcmp
    have HV : Hid (ctV [] = .tuple #[.string tn, .bool true]) := Lib.hid (by rw [← htn]; rfl)
    clear htn
    go_enter Tryd.func31, Tryd.ntmps31
    go_wp2_with (go_at_call 52; refine (pieces_none s _ HNN.out).mono ?_; rintro e w' ⟨rfl, rfl⟩)
    refine wp_loop_rounds 1 ?_; rw [rounds_succ]
    go_wp2_with (go_at_call 55; refine (implComplexText_any _ w.heap.size 0 0 [] rfl (Nat.zero_le _) (fun j hj => by cases hj) (by rw [HSZ.out]; omega) (fun x hx => by cases hx) (HT.out.below B0.out)).mono ?_; rintro e w2 ⟨rfl, hb⟩; rw [HV.out]; have HB2 := Lib.hid hb; clear hb)
    go_ret2
    exact HF.out _ (R0.out.below HB2.out R0.out.lt) (B0.out.trans (HB2.out.mono B0.out.size))
  · have HNN := Lib.hid hn
    have hsz : (w.alloc (.cells #[] 64)).heap.size = w.heap.size + 1 := by simp
    clear hn
    go_enter Tryd.func31, Tryd.ntmps31
    go_wp2_with fail
    go_at_call 52
    refine (pieces_any s _ hs HM.out HNN.out).mono ?_
    rintro e w1 ⟨GP, n, capP, ds, rfl, hrp, hlen, hmap, hGP, hb1⟩
    have hGP' : w.heap.size < GP := by rw [hsz] at hGP; omega
    have RO := Lib.hid (R0.out.below hb1 (by rw [hsz]; omega))
    have B1 := Lib.hid (B0.out.trans (hb1.mono B0.out.size))
    have RP := Lib.hid hrp
    obtain ⟨ps, hps⟩ : ∃ ps, cutsL [] s.data.toList = ps := ⟨_, rfl⟩
    have HPS := Lib.hid hps
    rw [hps] at hmap
    have HMAP := Lib.hid hmap
    have HLEN : Hid (ps.length = n) := Lib.hid (by rw [← hmap, List.length_map]; exact hlen)
    have HDS := Lib.hid hlen
    have hnle : n ≤ 1048577 := by
      have := cutsL_len s.data.toList []
      rw [hps, size_len] at this
      have := HLEN.out; omega
    have HSZ : Hid (∀ k (hk : k < ds.length) (hk' : k < ps.length), ds[k].data.toList = ps[k]) := Lib.hid (fun k hk hk' => by
      have : (ds.map (·.data.toList))[k]? = ps[k]? := by rw [hmap]
      rw [List.getElem?_map, List.getElem?_eq_getElem hk, List.getElem?_eq_getElem hk'] at this
      exact Option.some.inj this)
    have HBAD : Hid (∀ k (hk : k < ps.length), ps[k].length ≠ 16 → rc fb s.data.toList = none) := Lib.hid (fun k hk hv => by
      subst hps; exact rg_bad HNN.out hk (by rw [spc_no hv]; rfl))
    have HLONG : Hid (¬ n ≤ 256 → rc fb s.data.toList = none) := Lib.hid (fun h => rg_long HNN.out (by rw [hps, HLEN.out]; exact h))
    have HOK : Hid (n ≤ 256 → (∀ p ∈ ps, p.length = 16) → rc fb s.data.toList = if Lib.join ((ps.map prd2).map tx16) [44] = s.data.toList then some (ps.map prd2) else none) := Lib.hid (fun h1 h2 => by
      subst hps; exact rg_text (hx16_44 fb) HNN.out (by rw [HLEN.out]; exact h1) (fun p hp => spc_iff fb_lt (h2 p hp)))
    have HNE : Hid (ps ≠ []) := Lib.hid (by rw [← hps]; exact cutsL_ne _ _)
    clear hrp hlen hmap hb1 hps hGP R0 B0 hsz
    go_wp2
    go_loopw [4, 13] (fun o i wr => ∃ (k G cap : Nat), k ≤ n ∧ k ≤ 256 ∧ i = .int .i64 k ∧ o = .slice (some ⟨G, 0, none⟩) k cap ∧ (∀ i (h : i < ps.length), i < k → ps[i].length = 16) ∧ Row wr G 64 cap (((ps.take k).map prd2).map cV) ∧ Row wr GP 9 capP (bsV ds) ∧ Below w.heap.size w wr ∧ w.heap.size ≤ G ∧ GP ≠ G) (fun _ i _ => n - (intOf i).toNat)
    case atStart => exact ⟨0, w.heap.size, 0, Nat.zero_le _, Nat.zero_le _, rfl, rfl, fun i _ h => by omega, by simpa using RO.out, RP.out, B1.out, Nat.le_refl _, by omega⟩
    case round =>
      obtain ⟨k, G, cap, hk, hk2, rfl, rfl, hok, hr, hrp, hb, hG, hne⟩ := hrel
      have HK := Lib.hid hok; have HR := Lib.hid hr; have HRP := Lib.hid hrp; have HB := Lib.hid hb
      clear hok hr hrp hb RO RP B1
      by_cases hlt : k < n
      · have hkp : k < ps.length := by rw [HLEN.out]; exact hlt
        have hkd : k < ds.length := by rw [HDS.out]; exact hlt
        have hcell := HRP.out.cell k (by rw [bsV_len]; exact hkd)
        have hcv : (bsV ds)[k]'(by rw [bsV_len]; exact hkd) = .string ds[k] := by simp [bsV]
        rw [hcv] at hcell
        have hd1 := HSZ.out k hkd hkp
        have HB2 := Lib.hid (HBAD.out k hkp)
        have HNS : Hid (((ps.take (k + 1)).map prd2).map cV = ((ps.take k).map prd2).map cV ++ [.complex .f32 (prd (ps[k].take 8)) (prd (ps[k].drop 8))]) := Lib.hid (by
          rw [List.map_map, List.map_map, take_snoc _ hkp]; rfl)
        have HNL : Hid ((((ps.take k).map prd2).map cV).length = k) := Lib.hid (by rw [List.length_map, List.length_map, List.length_take]; omega)
        have HKS : Hid (ps[k].length = 16 → ∀ i (h : i < ps.length), i < k + 1 → ps[i].length = 16) := Lib.hid (fun h8 i h hi => by
          by_cases e : i = k
          · subst e; exact h8
          · exact HK.out i h (by omega))
        generalize ds[k] = d at hcell hd1
        generalize ps[k] = p at hd1 HB2 HNS HKS
        have hpl : p.length = d.size := by rw [← hd1, size_len]
        have HD1 := Lib.hid hd1
        clear hcv hd1
        by_cases h8 : d.size = 16
        case neg =>
          have HBB := Lib.hid (HB2.out (by omega))
          have h8b : ((d.size : Int) == 16) = false := by simp; omega
          go_wp2
          go_ret2
          exact RG.no HBB.out HB.out
        by_cases h256 : k = 256
        · have HBB := Lib.hid (HLONG.out (by omega))
          subst h256
          go_wp2
          go_ret2
          exact RG.no HBB.out HB.out
        · have k256 : ((k : Int) == 256) = false := by simp; omega
          have HKK := Lib.hid (HKS.out (by omega))
          clear hpl
          obtain ⟨dA, hdA⟩ : ∃ x, d.extract 0 8 = x := ⟨_, rfl⟩
          obtain ⟨dB, hdB⟩ : ∃ x, d.extract 8 16 = x := ⟨_, rfl⟩
          have slo := half_lo d dA hdA h8
          have shi := half_hi d dB hdB h8
          have HLA := Lib.hid (lo_data hdA HD1.out)
          have HLB := Lib.hid (hi_data hdB HD1.out (by rw [← HD1.out, size_len]; exact h8))
          have HA8 : Hid (dA.size = 8) := Lib.hid (by rw [size_of HLA.out, List.length_take, ← HD1.out, size_len, h8]; rfl)
          have HB8 : Hid (dB.size = 8) := Lib.hid (by rw [size_of HLB.out, List.length_drop, ← HD1.out, size_len, h8])
          clear hdA hdB
          go_wp2
          go_region_held3 (fun w' => True) (trivial) (first
            | (go_at_call_of 53 (Value.string dA); refine (readHex_any dA HA8.out _ ?_).mono ?_; exact errs_dr (by first | exact Dr.refl _ | exact ⟨1, rfl⟩ | exact ⟨2, rfl⟩ | exact ⟨3, rfl⟩) (HE.out.below HB.out); rintro e w2 ⟨rfl, hb2⟩; rw [HLA.out]; have HBa := Lib.hid (chain_dr HB.out (by first | exact Dr.refl _ | exact ⟨1, rfl⟩ | exact ⟨2, rfl⟩ | exact ⟨3, rfl⟩) hb2); have HRa := Lib.hid (row_chain HR.out (by first | exact Dr.refl _ | exact ⟨1, rfl⟩ | exact ⟨2, rfl⟩ | exact ⟨3, rfl⟩) hb2); have HRPa := Lib.hid (row_chain HRP.out (by first | exact Dr.refl _ | exact ⟨1, rfl⟩ | exact ⟨2, rfl⟩ | exact ⟨3, rfl⟩) hb2); clear hb2)
            | (go_at_call_of 53 (Value.string dB); refine (readHex_any dB HB8.out _ ?_).mono ?_; exact errs_dr (by first | exact Dr.refl _ | exact ⟨1, rfl⟩ | exact ⟨2, rfl⟩ | exact ⟨3, rfl⟩) (HE.out.below HBa.out); rintro e w3 ⟨rfl, hb2⟩; rw [HLB.out]; have HBb := Lib.hid (chain_dr HBa.out (by first | exact Dr.refl _ | exact ⟨1, rfl⟩ | exact ⟨2, rfl⟩ | exact ⟨3, rfl⟩) hb2); have HRb := Lib.hid (row_chain HRa.out (by first | exact Dr.refl _ | exact ⟨1, rfl⟩ | exact ⟨2, rfl⟩ | exact ⟨3, rfl⟩) hb2); have HRPb := Lib.hid (row_chain HRPa.out (by first | exact Dr.refl _ | exact ⟨1, rfl⟩ | exact ⟨2, rfl⟩ | exact ⟨3, rfl⟩) hb2); clear hb2)
            | (refine step_push (w := w3) Tryd.underlying44 Tryd.info64 (by rfl) _ _ (by rfl) (.complex .f32 (prd (p.take 8)) (prd (p.drop 8))) (by first | exact Dr.refl _ | exact ⟨1, rfl⟩ | exact ⟨2, rfl⟩ | exact ⟨3, rfl⟩) G cap (((ps.take k).map prd2).map cV) k (by rfl) HNL.out HRb.out (by rfl) rfl (by omega) (by decide) rfl w.heap.size w HBb.out HBb.out.size hG ?_; intro G' cap' w4 hr3 hb3 hG3 hk3; obtain ⟨hrp3, hne3⟩ := hk3 _ _ _ _ HRPb.out hne; have HR3 := Lib.hid hr3; have HB3 := Lib.hid hb3; have HRP3 := Lib.hid hrp3; clear hr3 hb3 hrp3 hk3))
          go_wp2
          go_roundw
          case rel => exact ⟨k + 1, G', cap', by omega, by omega, by go_num, rfl, HKK.out, by rw [HNS.out]; exact HR3.out, HRP3.out, HB3.out, hG3, hne3⟩
          case measure => simp [intOf] <;> omega
      · obtain rfl : k = n := by omega
        have h8 : ∀ p ∈ ps, p.length = 16 := fun p hp => by
          obtain ⟨i, hi, rfl⟩ := List.getElem_of_mem hp
          exact HK.out i hi (by rw [← HLEN.out]; exact hi)
        have HYY := Lib.hid (HOK.out hk2 h8)
        have HU := Lib.hid (C32_prd h8)
        have HRn : Hid (Row wr G 64 cap ((ps.map prd2).map cV)) := Lib.hid (by have := HR.out; rw [← HLEN.out, List.take_length] at this; exact this)
        have HXL : Hid ((ps.map prd2).length = k) := Lib.hid (by rw [List.length_map]; exact HLEN.out)
        have htx : txtG tx16 (ps.map prd2) = Lib.join ((ps.map prd2).map tx16) [44] := by
          unfold txtG
          rw [if_neg (by cases hps : ps with
            | nil => exact absurd hps HNE.out
            | cons x r => simp)]
        obtain ⟨tn, htn⟩ : ∃ tn : ByteArray, (⟨(txtG tx16 (ps.map prd2)).toArray⟩ : ByteArray) = tn := ⟨_, rfl⟩
        have HV : Hid (ctV (ps.map prd2) = .tuple #[.string tn, .bool true]) := Lib.hid (by unfold ctV; rw [HXL.out, if_pos hk2, htn])
        have htl : tn.data.toList = Lib.join ((ps.map prd2).map tx16) [44] := by rw [← htn, ← htx]
        have HTL := Lib.hid htl
        clear h8 htx htn htl
        by_cases he : tn.data.toList = s.data.toList
        · have HY : Hid (rc fb s.data.toList = some (ps.map prd2)) := Lib.hid (by rw [HYY.out, if_pos (by rw [← HTL.out, he])])
          have hcmp := (same_text tn s).trans (decide_eq_true he)
          clear he
          go_wp2_with (go_at_call 55; refine (implComplexText_any _ G k cap (ps.map prd2) HXL.out hk2 (row_cd HRn.out) HRn.out.lt HU.out (HT.out.below HB.out)).mono ?_; rintro e w2 ⟨rfl, hb⟩; rw [HV.out]; have HB2 := Lib.hid hb; clear hb)
          go_ret2
          exact RG.yes HY.out HXL.out (HRn.out.below HB2.out HRn.out.lt) hG (HB.out.trans (HB2.out.mono HB.out.size))
        · have HY : Hid (rc fb s.data.toList = none) := Lib.hid (by
            rw [HYY.out, if_neg (fun h => he (by rw [HTL.out, h]))])
          have hcmp := (same_text tn s).trans (decide_eq_false he)
          clear he
          go_wp2_with (go_at_call 55; refine (implComplexText_any _ G k cap (ps.map prd2) HXL.out hk2 (row_cd HRn.out) HRn.out.lt HU.out (HT.out.below HB.out)).mono ?_; rintro e w2 ⟨rfl, hb⟩; rw [HV.out]; have HB2 := Lib.hid hb; clear hb)
          go_ret2
          exact RG.no HY.out (HB.out.trans (HB2.out.mono HB.out.size))

end Go.Proofs.YtjlbjlcficbdlaaDoor
