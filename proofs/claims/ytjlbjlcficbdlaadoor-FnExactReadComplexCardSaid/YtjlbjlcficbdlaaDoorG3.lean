/-
  Walks: the law ReadComplex: the reference's functions. Conditions: none.
-/
import Derived.Test.YtjlbjlcficbdlaaDoorE8
import Derived.Test.YtjlbjlcficbdlaaDoorG2
set_option linter.unusedVariables false
set_option linter.unusedSimpArgs false
namespace Go.Proofs.YtjlbjlcficbdlaaDoor
open Go Go.RowKit Flo Fl

def dgV : Option Nat → Value
  | some n => .tuple #[.float .f32 n, .bool true]
  | none => .tuple #[.float .f32 0, .bool false]

set_option maxHeartbeats 16000000 in
set_option maxRecDepth 100000 in
theorem l01Digits_any (t : ByteArray) (p : List UInt8) (hd : t.data.toList = p) (h8 : p.length = 8) (w : World) : Calls Tryd.prog 72 #[.string t] w fun e w' => e = .returned (dgV (spx fb p)) ∧ w = w' := by
  have hts : t.size = 8 := by rw [size_of hd]; exact h8
  have HD := Lib.hid hd; have HP8 := Lib.hid h8
  clear hd h8
  go_enter Tryd.func72, Tryd.ntmps72
  go_wp2
  go_loop [4, 5] (fun vn vj => ∃ (j acc : Nat) (a : Int), vn = .int .i64 a ∧ vj = .int .i64 j ∧ j ≤ 8 ∧ Hid (a = (acc : Int) ∧ acc < 16 ^ j ∧ spn 0 p = spn acc (p.drop j))) (fun _ vj => 8 - (intOf vj).toNat)
  case atStart => exact ⟨0, 0, 0, rfl, rfl, by omega, rfl, by simp, rfl⟩
  case round =>
    obtain ⟨j, acc, a, rfl, rfl, hj, hh⟩ := hrel
    obtain ⟨ha, hacc, hdec⟩ := hh.out
    clear hh
    have HA := Lib.hid ha; have HAC := Lib.hid hacc
    have hp1 : 16 ^ j ≤ 16 ^ 8 := Nat.pow_le_pow_right (by decide) hj
    have hp2 : acc < 4294967296 := Nat.lt_of_lt_of_le hacc hp1
    have a0 : 0 ≤ a := by omega
    have a1 : a < 4294967296 := by omega
    clear hp1 ha hacc
    by_cases hj8 : j < 8
    · have hjl : j < p.length := by rw [HP8.out]; exact hj8
      have hidx := idx_str t p HD.out j hjl
      have hdrop : p.drop j = p[j] :: p.drop (j + 1) := List.drop_eq_getElem_cons hjl
      rw [hdrop] at hdec
      generalize p[j] = c at hidx hdec
      clear hdrop hjl hp2
      obtain ⟨m, hm⟩ : ∃ m : Nat, c.toNat = m := ⟨_, rfl⟩
      have hm256 : m < 256 := by rw [← hm]; exact c.toNat_lt
      rw [hm] at hidx
      have hcases := hv_cases c m hm
      clear hm
      have hnext : acc < 16 ^ j → ∀ d, d < 16 → 16 * acc + d < 16 ^ (j + 1) ∧ 16 * acc + d < 4294967296 := by
        intro h1 d hd
        have h2 : 16 * acc + d < 16 ^ (j + 1) := by rw [Nat.pow_succ]; omega
        exact ⟨h2, Nat.lt_of_lt_of_le h2 (Nat.pow_le_pow_right (by decide) (by omega) : 16 ^ (j + 1) ≤ 16 ^ 8)⟩
      have HNX := Lib.hid (hnext HAC.out)
      clear hnext
      rcases hcases with ⟨c1, c2, h⟩ | ⟨c1, c2, h⟩ | ⟨c1, h⟩ | ⟨c1, c2, h⟩ | ⟨c1, h⟩
      · have h2 := HNX.out (m - 48) (by omega)
        have HN : Hid (16 * a + ((m : Int) - 48) = ((16 * acc + (m - 48) : Nat) : Int) ∧ 16 * acc + (m - 48) < 16 ^ (j + 1) ∧ spn 0 p = spn (16 * acc + (m - 48)) (p.drop (j + 1))) := Lib.hid ⟨by have := HA.out; omega, h2.1, hdec.trans (spn_cons h)⟩
        clear h h2 hdec
        go_wp2
        refine ⟨⟨j + 1, 16 * acc + (m - 48), 16 * a + ((m : Int) - 48), (by first | rfl | (congr 1; omega)), (by first | rfl | go_num | (congr 1; omega)), by omega, HN⟩, by simp [intOf]; omega⟩
      · have h2 := HNX.out (m - 87) (by omega)
        have HN : Hid (16 * a + ((m : Int) - 97 + 10) = ((16 * acc + (m - 87) : Nat) : Int) ∧ 16 * acc + (m - 87) < 16 ^ (j + 1) ∧ spn 0 p = spn (16 * acc + (m - 87)) (p.drop (j + 1))) := Lib.hid ⟨by have := HA.out; omega, h2.1, hdec.trans (spn_cons h)⟩
        clear h h2 hdec
        go_wp2
        refine ⟨⟨j + 1, 16 * acc + (m - 87), 16 * a + ((m : Int) - 97 + 10), (by first | rfl | (congr 1; omega)), (by first | rfl | go_num | (congr 1; omega)), by omega, HN⟩, by simp [intOf]; omega⟩
      all_goals (
        have HBB : Hid (spx fb p = none) := Lib.hid (spx_none_spn (hdec.trans (spn_bad h)))
        clear h hdec
        go_wp2
        go_ret2
        exact ⟨by rw [HBB.out]; rfl, rfl⟩)
    · obtain rfl : j = 8 := by omega
      have hE : spn 0 p = some acc := by rw [hdec, List.drop_eq_nil_of_le (by rw [HP8.out]; exact Nat.le_refl _)]; rfl
      have ha := HA.out
      subst ha
      clear hdec
      by_cases he : fb acc = acc
      · have HSX : Hid (spx fb p = some acc) := Lib.hid (spx_some HP8.out hE he)
        have HE := Lib.hid he
        have HX := Lib.hid hp2
        clear hE he a1
        go_wp2_with (first
          | (go_at_call 67; refine (l01From_any acc _ HX.out).mono ?_; rintro e w' ⟨rfl, rfl⟩)
          | (go_at_call 68; refine (l01Bits_any acc _ HX.out).mono ?_; rintro e w' ⟨rfl, rfl⟩; rw [HE.out]))
        go_ret2
        exact ⟨by rw [HSX.out]; rfl, rfl⟩
      · have HSX : Hid (spx fb p = none) := Lib.hid (spx_none_ne hE he)
        have hfi : ¬ ((fb acc : Int) = (acc : Int)) := by omega
        have hfb : ((fb acc : Int) == (acc : Int)) = false := by simpa using hfi
        have HX := Lib.hid hp2
        obtain ⟨fz, hfz⟩ : ∃ fz, fb acc = fz := ⟨_, rfl⟩
        have HFZ := Lib.hid hfz
        rw [hfz] at hfi hfb
        clear hE he hfz a1
        go_wp2_with (first
          | (go_at_call 67; refine (l01From_any acc _ HX.out).mono ?_; rintro e w' ⟨rfl, rfl⟩)
          | (go_at_call 68; refine (l01Bits_any acc _ HX.out).mono ?_; rintro e w' ⟨rfl, rfl⟩; rw [HFZ.out]))
        go_ret2
        exact ⟨by rw [HSX.out]; rfl, rfl⟩

theorem half_lo (d dA : ByteArray) (h : d.extract 0 8 = dA) (h16 : d.size = 16) : ∀ W : World, (Instr.sliceAt 9 (.string d) none (some (.int .i64 8)) none).run Tryd.prog W = .ok (.string dA) W := by
  intro W
  subst h
  go_simp
theorem half_hi (d dB : ByteArray) (h : d.extract 8 16 = dB) (h16 : d.size = 16) : ∀ W : World, (Instr.sliceAt 9 (.string d) (some (.int .i64 8)) none none).run Tryd.prog W = .ok (.string dB) W := by
  intro W
  subst h
  go_simp
theorem lo_data {d dA : ByteArray} {p : List UInt8} (h : d.extract 0 8 = dA) (hd : d.data.toList = p) : dA.data.toList = p.take 8 := by
  rw [← h, ext_data, hd]; simp
theorem hi_data {d dB : ByteArray} {p : List UInt8} (h : d.extract 8 16 = dB) (hd : d.data.toList = p) (hl : p.length = 16) : dB.data.toList = p.drop 8 := by
  rw [← h, ext_data, hd, List.take_of_length_le (by omega)]

set_option maxHeartbeats 16000000 in
set_option maxRecDepth 100000 in
theorem l01CRead_any (s : ByteArray) (w : World) (hs : s.size ≤ 1048576) : Calls Tryd.prog 54 #[.string s] w (RG 64 cV w (rc fb s.data.toList)) := by
  have R0 := Lib.hid (row_fresh w 64)
  have B0 := Lib.hid ((Below.refl w.heap.size w).alloc (Nat.le_refl _) (.cells #[] 64))
  by_cases hn : s.data.toList = n4
  · have HF : Hid (RG 64 cV w (rc fb s.data.toList) (.returned (.tuple #[.slice (some ⟨w.heap.size, 0, none⟩) 0 0, .bool true])) (w.alloc (.cells #[] 64))) :=
      Lib.hid (RG.yes (vs := []) (by rw [hn]; exact rg_none) rfl R0.out (Nat.le_refl _) B0.out)
    have hcmp := (same_n4 s).trans (decide_eq_true hn)
    clear hn
    go_enter Tryd.func54, Tryd.ntmps54
    go_wp2
    go_ret2
    exact HF.out
  · have HNN := Lib.hid hn
    have hsz : (w.alloc (.cells #[] 64)).heap.size = w.heap.size + 1 := by simp
    have hcmp := (same_n4 s).trans (decide_eq_false hn)
    clear hn
    go_enter Tryd.func54, Tryd.ntmps54
    go_wp2_with fail
    go_at_call 62
    refine (l01Cut_any s _ hs).mono ?_
    rintro e w1 ⟨GP, n, capP, ds, rfl, hrp, hlen, hmap, hGP, hb1⟩
    have hGP' : w.heap.size < GP := by rw [hsz] at hGP; omega
    have RO := Lib.hid (R0.out.below hb1 (by rw [hsz]; omega))
    have B1 := Lib.hid (B0.out.trans (hb1.mono B0.out.size))
    have RP := Lib.hid hrp
    obtain ⟨ps, hps⟩ : ∃ ps, cutsL [] s.data.toList = ps := ⟨_, rfl⟩
    have HPS := Lib.hid hps
    rw [hps] at hmap
    have HMAP := Lib.hid hmap
    have HLEN : Hid (ps.length = n) := Lib.hid (by rw [← hmap, List.length_map]; exact hlen)
    have HDS := Lib.hid hlen
    have hnle : n ≤ 1048577 := by
      have := cutsL_len s.data.toList []
      rw [hps, size_len] at this
      have := HLEN.out; omega
    have HSZ : Hid (∀ k (hk : k < ds.length) (hk' : k < ps.length), ds[k].data.toList = ps[k]) := Lib.hid (fun k hk hk' => by
      have : (ds.map (·.data.toList))[k]? = ps[k]? := by rw [hmap]
      rw [List.getElem?_map, List.getElem?_eq_getElem hk, List.getElem?_eq_getElem hk'] at this
      exact Option.some.inj this)
    have HBAD : Hid (∀ k (hk : k < ps.length), spc fb ps[k] = none → rc fb s.data.toList = none) := Lib.hid (fun k hk hv => by
      subst hps; exact rg_bad HNN.out hk (by rw [hv]; rfl))
    have HOK : Hid (n ≤ 256 → (∀ p ∈ ps, (spc fb p).isSome = true) → rc fb s.data.toList = some (ps.map prd2)) := Lib.hid (fun h1 h2 => by
      subst hps; exact rg_ok HNN.out (by rw [HLEN.out]; exact h1) h2)
    by_cases hlong : n ≤ 256
    case neg =>
      have HLO : Hid (rc fb s.data.toList = none) := Lib.hid (rg_long HNN.out (by rw [hps, HLEN.out]; exact hlong))
      clear hrp hlen hmap hb1 hps hGP R0 B0 hsz
      go_wp2
      go_ret2
      exact RG.no HLO.out B1.out
    have hnn : n ≤ 256 := hlong
    clear hlong
    clear hrp hlen hmap hb1 hps hGP R0 B0 hsz
    go_wp2
    go_loopw [4, 6] (fun o i wr => ∃ (k G cap : Nat), k ≤ n ∧ i = .int .i64 k ∧ o = .slice (some ⟨G, 0, none⟩) k cap ∧ (∀ i (h : i < ps.length), i < k → (spc fb ps[i]).isSome = true) ∧ Row wr G 64 cap (((ps.take k).map prd2).map cV) ∧ Row wr GP 9 capP (bsV ds) ∧ Below w.heap.size w wr ∧ w.heap.size ≤ G ∧ GP ≠ G) (fun _ i _ => n - (intOf i).toNat)
    case atStart => exact ⟨0, w.heap.size, 0, Nat.zero_le _, rfl, rfl, fun i _ h => by omega, by simpa using RO.out, RP.out, B1.out, Nat.le_refl _, by omega⟩
    case round =>
      obtain ⟨k, G, cap, hk, rfl, rfl, hok, hr, hrp, hb, hG, hne⟩ := hrel
      have HK := Lib.hid hok; have HR := Lib.hid hr; have HRP := Lib.hid hrp; have HB := Lib.hid hb
      clear hok hr hrp hb RO RP B1
      by_cases hlt : k < n
      · have hkp : k < ps.length := by rw [HLEN.out]; exact hlt
        have hkd : k < ds.length := by rw [HDS.out]; exact hlt
        have hcell := HRP.out.cell k (by rw [bsV_len]; exact hkd)
        have hcv : (bsV ds)[k]'(by rw [bsV_len]; exact hkd) = .string ds[k] := by simp [bsV]
        rw [hcv] at hcell
        have hd1 := HSZ.out k hkd hkp
        have HB2 := Lib.hid (HBAD.out k hkp)
        have HNS : Hid (((ps.take (k + 1)).map prd2).map cV = ((ps.take k).map prd2).map cV ++ [.complex .f32 (prd (ps[k].take 8)) (prd (ps[k].drop 8))]) := Lib.hid (by
          rw [List.map_map, List.map_map, take_snoc _ hkp]; rfl)
        have HNL : Hid ((((ps.take k).map prd2).map cV).length = k) := Lib.hid (by rw [List.length_map, List.length_map, List.length_take]; omega)
        have HKS : Hid ((spc fb ps[k]).isSome = true → ∀ i (h : i < ps.length), i < k + 1 → (spc fb ps[i]).isSome = true) := Lib.hid (fun h8 i h hi => by
          by_cases e : i = k
          · subst e; exact h8
          · exact HK.out i h (by omega))
        generalize ds[k] = d at hcell hd1
        generalize ps[k] = p at hd1 HB2 HNS HKS
        have hpl : p.length = d.size := by rw [← hd1, size_len]
        have HD1 := Lib.hid hd1
        clear hcv hd1 hkp hkd
        by_cases h16 : d.size = 16
        case neg =>
          have HBB := Lib.hid (HB2.out (spc_no (by omega)))
          have h8b : ((d.size : Int) == 16) = false := by simp; omega
          go_wp2
          go_ret2
          exact RG.no HBB.out HB.out
        have HP16 : Hid (p.length = 16) := Lib.hid (by omega)
        clear hpl
        obtain ⟨dA, hdA⟩ : ∃ x, d.extract 0 8 = x := ⟨_, rfl⟩
        obtain ⟨dB, hdB⟩ : ∃ x, d.extract 8 16 = x := ⟨_, rfl⟩
        have slo := half_lo d dA hdA h16
        have shi := half_hi d dB hdB h16
        have HLA := Lib.hid (lo_data hdA HD1.out)
        have HLB := Lib.hid (hi_data hdB HD1.out HP16.out)
        have HA8 : Hid ((p.take 8).length = 8) := Lib.hid (by rw [List.length_take, HP16.out]; rfl)
        have HB8 : Hid ((p.drop 8).length = 8) := Lib.hid (by rw [List.length_drop, HP16.out])
        clear hdA hdB
        obtain ⟨ra, hra⟩ : ∃ r, spx fb (p.take 8) = r := ⟨_, rfl⟩
        obtain ⟨rb, hrb⟩ : ∃ r, spx fb (p.drop 8) = r := ⟨_, rfl⟩
        have HRA := Lib.hid hra; have HRB := Lib.hid hrb
        clear hra hrb
        cases ra with
        | none =>
          have HBB := Lib.hid (HB2.out (spc_no1 HRA.out))
          cases rb with
          | none =>
            go_wp2_with (first
              | (go_at_call_of 72 (Value.string dA); refine (l01Digits_any dA (p.take 8) HLA.out HA8.out _).mono ?_; rintro e w' ⟨rfl, rfl⟩; rw [HRA.out]; unfold dgV)
              | (go_at_call_of 72 (Value.string dB); refine (l01Digits_any dB (p.drop 8) HLB.out HB8.out _).mono ?_; rintro e w' ⟨rfl, rfl⟩; rw [HRB.out]; unfold dgV))
            go_ret2
            exact RG.no HBB.out HB.out
          | some b =>
            go_wp2_with (first
              | (go_at_call_of 72 (Value.string dA); refine (l01Digits_any dA (p.take 8) HLA.out HA8.out _).mono ?_; rintro e w' ⟨rfl, rfl⟩; rw [HRA.out]; unfold dgV)
              | (go_at_call_of 72 (Value.string dB); refine (l01Digits_any dB (p.drop 8) HLB.out HB8.out _).mono ?_; rintro e w' ⟨rfl, rfl⟩; rw [HRB.out]; unfold dgV))
            go_ret2
            exact RG.no HBB.out HB.out
        | some a =>
          cases rb with
          | none =>
            have HBB := Lib.hid (HB2.out (spc_no2 HRB.out))
            go_wp2_with (first
              | (go_at_call_of 72 (Value.string dA); refine (l01Digits_any dA (p.take 8) HLA.out HA8.out _).mono ?_; rintro e w' ⟨rfl, rfl⟩; rw [HRA.out]; unfold dgV)
              | (go_at_call_of 72 (Value.string dB); refine (l01Digits_any dB (p.drop 8) HLB.out HB8.out _).mono ?_; rintro e w' ⟨rfl, rfl⟩; rw [HRB.out]; unfold dgV))
            go_ret2
            exact RG.no HBB.out HB.out
          | some b =>
            have HKK := Lib.hid (HKS.out (by rw [spc_yes HP16.out HRA.out HRB.out]; rfl))
            have HNV : Hid (((ps.take (k + 1)).map prd2).map cV = ((ps.take k).map prd2).map cV ++ [.complex .f32 a b]) := Lib.hid (by
              rw [HNS.out, spx_prd HRA.out, spx_prd HRB.out])
            go_wp2_with (first
              | (go_at_call_of 72 (Value.string dA); refine (l01Digits_any dA (p.take 8) HLA.out HA8.out _).mono ?_; rintro e w' ⟨rfl, rfl⟩; rw [HRA.out]; unfold dgV)
              | (go_at_call_of 72 (Value.string dB); refine (l01Digits_any dB (p.drop 8) HLB.out HB8.out _).mono ?_; rintro e w' ⟨rfl, rfl⟩; rw [HRB.out]; unfold dgV)
              | (at_builtin; refine push_to Tryd.underlying44 Tryd.info64 _ rfl _ _ rfl G cap (((ps.take k).map prd2).map cV) k (.complex .f32 a b) (by rfl) HNL.out HR.out (by rfl) rfl (by omega) (by decide) rfl w.heap.size w HB.out HB.out.size hG ?_; intro G' cap' w3 hr3 hb3 hG3 hk3; obtain ⟨hrp3, hne3⟩ := hk3 _ _ _ _ HRP.out hne; have HR3 := Lib.hid hr3; have HB3 := Lib.hid hb3; have HRP3 := Lib.hid hrp3; clear hr3 hb3 hrp3 hk3))
            go_roundw
            case rel => exact ⟨k + 1, G', cap', by omega, by go_num, rfl, HKK.out, by rw [HNV.out]; exact HR3.out, HRP3.out, HB3.out, hG3, hne3⟩
            case measure => simp [intOf] <;> omega
      · obtain rfl : k = n := by omega
        have HYY : Hid (rc fb s.data.toList = some (ps.map prd2)) := Lib.hid (HOK.out hnn (fun p hp => by
          obtain ⟨i, hi, rfl⟩ := List.getElem_of_mem hp
          exact HK.out i hi (by rw [← HLEN.out]; exact hi)))
        have HRn : Hid (Row wr G 64 cap ((ps.map prd2).map cV)) := Lib.hid (by have := HR.out; rw [← HLEN.out, List.take_length] at this; exact this)
        go_wp2
        go_ret2
        exact RG.yes HYY.out (by rw [List.length_map]; exact HLEN.out) HRn.out hG HB.out

set_option maxHeartbeats 1000000 in
set_option maxRecDepth 100000 in
theorem specReadComplex_any (s : ByteArray) (w : World) (hs : s.size ≤ 1048576) : Calls Tryd.prog 30 #[.string s] w (RG 64 cV w (rc fb s.data.toList)) := by
  obtain ⟨o, ho⟩ : ∃ o, rc fb s.data.toList = o := ⟨_, rfl⟩
  have HO := Lib.hid ho
  rw [ho]; clear ho
  go_enter Tryd.func30, Tryd.ntmps30
  go_wp2_with fail
  go_at_call 54
  refine (l01CRead_any s _ hs).mono ?_
  rw [HO.out]
  rintro e w1 (⟨rfl, rfl, hb⟩ | ⟨vs, n, G, cap, rfl, hn, rfl, hr, hG, hb⟩)
  · have HB := Lib.hid hb; clear hb
    go_wp2
    go_ret2
    exact RG.no rfl HB.out
  · have HB := Lib.hid hb; have HN := Lib.hid hn; have HR := Lib.hid hr; clear hb hn hr
    go_wp2
    go_ret2
    exact RG.yes rfl HN.out HR.out hG HB.out

end Go.Proofs.YtjlbjlcficbdlaaDoor
