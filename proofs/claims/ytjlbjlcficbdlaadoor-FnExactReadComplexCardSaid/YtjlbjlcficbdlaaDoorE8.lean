/-
  Walks: the law ReadNumbers: the reference's functions. Conditions: none.
-/
import Derived.Test.YtjlbjlcficbdlaaDoorE7
set_option linter.unusedVariables false
set_option linter.unusedSimpArgs false
namespace Go.Proofs.YtjlbjlcficbdlaaDoor
open Go Go.RowKit Flo Fl

theorem hv_cases (c : UInt8) (n : Nat) (hn : c.toNat = n) :
    (48 ≤ n ∧ n ≤ 57 ∧ hv c = some (n - 48)) ∨ (97 ≤ n ∧ n ≤ 102 ∧ hv c = some (n - 87)) ∨
    (n < 48 ∧ hv c = none) ∨ (57 < n ∧ n < 97 ∧ hv c = none) ∨ (102 < n ∧ hv c = none) := by
  unfold hv
  rw [hn]
  by_cases h1 : 48 ≤ n ∧ n ≤ 57
  · rw [if_pos h1]; exact .inl ⟨h1.1, h1.2, rfl⟩
  · rw [if_neg h1]
    by_cases h2 : 97 ≤ n ∧ n ≤ 102
    · rw [if_pos h2]; exact .inr (.inl ⟨h2.1, h2.2, rfl⟩)
    · rw [if_neg h2]
      have h3 : n < 48 ∨ (57 < n ∧ n < 97) ∨ 102 < n := by omega
      rcases h3 with h | ⟨h, h'⟩ | h
      · exact .inr (.inr (.inl ⟨h, rfl⟩))
      · exact .inr (.inr (.inr (.inl ⟨h, h', rfl⟩)))
      · exact .inr (.inr (.inr (.inr ⟨h, rfl⟩)))
theorem spn_cons {a d : Nat} {c : UInt8} {r : List UInt8} (h : hv c = some d) : spn a (c :: r) = spn (16 * a + d) r := by
  conv => lhs; unfold spn
  rw [h]
theorem spn_bad {a : Nat} {c : UInt8} {r : List UInt8} (h : hv c = none) : spn a (c :: r) = none := by
  conv => lhs; unfold spn
  rw [h]
theorem idx_str (d : ByteArray) (p : List UInt8) (hd : d.data.toList = p) (j : Nat) (hj : j < p.length) : ∀ W : World, (Instr.index 9 (.string d) (.int .i64 (j : Int))).run Tryd.prog W = .ok (.int .u8 (p[j].toNat : Int)) W := by
  intro W
  subst hd
  have hj2 : j < d.size := by rw [← size_len]; exact hj
  go_simp
  rfl
theorem spx_none_spn {B : Nat → Nat} {p : List UInt8} (h : spn 0 p = none) : spx B p = none := by
  unfold spx; split
  · rw [h]
  · rfl
theorem spx_none_ne {B : Nat → Nat} {p : List UInt8} {n : Nat} (h : spn 0 p = some n) (hne : ¬ B n = n) : spx B p = none := by
  unfold spx; split
  · rw [h]; simp [hne]
  · rfl
theorem spx_some {B : Nat → Nat} {p : List UInt8} {n : Nat} (hl : p.length = 8) (h : spn 0 p = some n) (he : B n = n) : spx B p = some n := by
  unfold spx
  rw [if_pos hl, h]; simp [he]

set_option maxHeartbeats 16000000 in
set_option maxRecDepth 100000 in
theorem l01NRead_any (s : ByteArray) (w : World) (hs : s.size ≤ 1048576) : Calls Tryd.prog 51 #[.string s] w (RG 56 (Value.float .f32) w (rn fb s.data.toList)) := by
  have R0 := Lib.hid (row_fresh w 56)
  have B0 := Lib.hid ((Below.refl w.heap.size w).alloc (Nat.le_refl _) (.cells #[] 56))
  by_cases hn : s.data.toList = n4
  · have HF : Hid (RG 56 (Value.float .f32) w (rn fb s.data.toList) (.returned (.tuple #[.slice (some ⟨w.heap.size, 0, none⟩) 0 0, .bool true])) (w.alloc (.cells #[] 56))) :=
      Lib.hid (RG.yes (vs := []) (by rw [hn]; exact rn_none) rfl R0.out (Nat.le_refl _) B0.out)
    have hcmp := (same_n4 s).trans (decide_eq_true hn)
    clear hn
    go_enter Tryd.func51, Tryd.ntmps51
    go_wp2
    go_ret2
    exact HF.out
  · have HNN := Lib.hid hn
    have hsz : (w.alloc (.cells #[] 56)).heap.size = w.heap.size + 1 := by simp
    have hcmp := (same_n4 s).trans (decide_eq_false hn)
    clear hn
    go_enter Tryd.func51, Tryd.ntmps51
    go_wp2_with fail
    go_at_call 62
    refine (l01Cut_any s _ hs).mono ?_
    rintro e w1 ⟨GP, n, capP, ds, rfl, hrp, hlen, hmap, hGP, hb1⟩
    have hGP' : w.heap.size < GP := by rw [hsz] at hGP; omega
    have RO := Lib.hid (R0.out.below hb1 (by rw [hsz]; omega))
    have B1 := Lib.hid (B0.out.trans (hb1.mono B0.out.size))
    have RP := Lib.hid hrp
    obtain ⟨ps, hps⟩ : ∃ ps, cutsL [] s.data.toList = ps := ⟨_, rfl⟩
    have HPS := Lib.hid hps
    rw [hps] at hmap
    have HMAP := Lib.hid hmap
    have HLEN : Hid (ps.length = n) := Lib.hid (by rw [← hmap, List.length_map]; exact hlen)
    have HDS := Lib.hid hlen
    have hnle : n ≤ 1048577 := by
      have := cutsL_len s.data.toList []
      rw [hps, size_len] at this
      have := HLEN.out; omega
    have HSZ : Hid (∀ k (hk : k < ds.length) (hk' : k < ps.length), ds[k].data.toList = ps[k]) := Lib.hid (fun k hk hk' => by
      have : (ds.map (·.data.toList))[k]? = ps[k]? := by rw [hmap]
      rw [List.getElem?_map, List.getElem?_eq_getElem hk, List.getElem?_eq_getElem hk'] at this
      exact Option.some.inj this)
    have HBAD : Hid (∀ k (hk : k < ps.length), spx fb ps[k] = none → rn fb s.data.toList = none) := Lib.hid (fun k hk hv => by
      subst hps; exact rn_bad HNN.out hk hv)
    have HOK : Hid (n ≤ 256 → (∀ p ∈ ps, (spx fb p).isSome = true) → rn fb s.data.toList = some (ps.map prd)) := Lib.hid (fun h1 h2 => by
      subst hps; exact rn_ok HNN.out (by rw [HLEN.out]; exact h1) h2)
    by_cases hlong : n ≤ 256
    case neg =>
      have HLO : Hid (rn fb s.data.toList = none) := Lib.hid (rn_long HNN.out (by rw [hps, HLEN.out]; exact hlong))
      clear hrp hlen hmap hb1 hps hGP R0 B0 hsz
      go_wp2
      go_ret2
      exact RG.no HLO.out B1.out
    have hnn : n ≤ 256 := hlong
    clear hlong
    clear hrp hlen hmap hb1 hps hGP R0 B0 hsz
    go_wp2
    go_loopw [4, 6] (fun o i wr => ∃ (k G cap : Nat), k ≤ n ∧ i = .int .i64 k ∧ o = .slice (some ⟨G, 0, none⟩) k cap ∧ (∀ i (h : i < ps.length), i < k → (spx fb ps[i]).isSome = true) ∧ Row wr G 56 cap (((ps.take k).map prd).map (Value.float .f32)) ∧ Row wr GP 9 capP (bsV ds) ∧ Below w.heap.size w wr ∧ w.heap.size ≤ G ∧ GP ≠ G) (fun _ i _ => n - (intOf i).toNat)
    case atStart => exact ⟨0, w.heap.size, 0, Nat.zero_le _, rfl, rfl, fun i _ h => by omega, by simpa using RO.out, RP.out, B1.out, Nat.le_refl _, by omega⟩
    case round =>
      obtain ⟨k, G, cap, hk, rfl, rfl, hok, hr, hrp, hb, hG, hne⟩ := hrel
      have HK := Lib.hid hok; have HR := Lib.hid hr; have HRP := Lib.hid hrp; have HB := Lib.hid hb
      clear hok hr hrp hb RO RP B1
      by_cases hlt : k < n
      · have hkp : k < ps.length := by rw [HLEN.out]; exact hlt
        have hkd : k < ds.length := by rw [HDS.out]; exact hlt
        have hcell := HRP.out.cell k (by rw [bsV_len]; exact hkd)
        have hcv : (bsV ds)[k]'(by rw [bsV_len]; exact hkd) = .string ds[k] := by simp [bsV]
        rw [hcv] at hcell
        have hd1 := HSZ.out k hkd hkp
        have HB2 := Lib.hid (HBAD.out k hkp)
        have HNS : Hid (((ps.take (k + 1)).map prd).map (Value.float .f32) = ((ps.take k).map prd).map (Value.float .f32) ++ [.float .f32 (prd ps[k])]) := Lib.hid (by
          rw [List.map_map, List.map_map, take_snoc _ hkp]; rfl)
        have HNL : Hid ((((ps.take k).map prd).map (Value.float .f32)).length = k) := Lib.hid (by rw [List.length_map, List.length_map, List.length_take]; omega)
        have HKS : Hid ((spx fb ps[k]).isSome = true → ∀ i (h : i < ps.length), i < k + 1 → (spx fb ps[i]).isSome = true) := Lib.hid (fun h8 i h hi => by
          by_cases e : i = k
          · subst e; exact h8
          · exact HK.out i h (by omega))
        generalize ds[k] = d at hcell hd1
        generalize ps[k] = p at hd1 HB2 HNS HKS
        have hpl : p.length = d.size := by rw [← hd1, size_len]
        have HD1 := Lib.hid hd1
        clear hcv hd1 hkp hkd
        by_cases h8 : d.size = 8
        case neg =>
          have HBB := Lib.hid (HB2.out (by unfold spx; rw [if_neg (by omega)]))
          have h8b : ((d.size : Int) == 8) = false := by simp; omega
          go_wp2
          go_ret2
          exact RG.no HBB.out HB.out
        have HP8 : Hid (p.length = 8) := Lib.hid (by omega)
        clear hpl
        go_wp2
        go_loop [7, 8] (fun vn vj => ∃ (j acc : Nat) (a : Int), vn = .int .i64 a ∧ vj = .int .i64 j ∧ j ≤ 8 ∧ Hid (a = (acc : Int) ∧ acc < 16 ^ j ∧ spn 0 p = spn acc (p.drop j))) (fun _ vj => 8 - (intOf vj).toNat)
        case atStart => exact ⟨0, 0, 0, rfl, rfl, by omega, rfl, by simp, rfl⟩
        case round =>
          obtain ⟨j, acc, a, rfl, rfl, hj, hh⟩ := hrel
          obtain ⟨ha, hacc, hdec⟩ := hh.out
          clear hh
          have HA := Lib.hid ha; have HAC := Lib.hid hacc
          have hp1 : 16 ^ j ≤ 16 ^ 8 := Nat.pow_le_pow_right (by decide) hj
          have hp2 : acc < 4294967296 := Nat.lt_of_lt_of_le hacc hp1
          have a0 : 0 ≤ a := by omega
          have a1 : a < 4294967296 := by omega
          clear hp1 ha hacc
          by_cases hj8 : j < 8
          · have hjl : j < p.length := by rw [HP8.out]; exact hj8
            have hidx := idx_str d p HD1.out j hjl
            have hdrop : p.drop j = p[j] :: p.drop (j + 1) := List.drop_eq_getElem_cons hjl
            rw [hdrop] at hdec
            generalize p[j] = c at hidx hdec
            clear hdrop hjl hp2
            obtain ⟨m, hm⟩ : ∃ m : Nat, c.toNat = m := ⟨_, rfl⟩
            have hm256 : m < 256 := by rw [← hm]; exact c.toNat_lt
            rw [hm] at hidx
            have hcases := hv_cases c m hm
            clear hm
            have hnext : acc < 16 ^ j → ∀ d, d < 16 → 16 * acc + d < 16 ^ (j + 1) ∧ 16 * acc + d < 4294967296 := by
              intro h1 d hd
              have h2 : 16 * acc + d < 16 ^ (j + 1) := by rw [Nat.pow_succ]; omega
              exact ⟨h2, Nat.lt_of_lt_of_le h2 (Nat.pow_le_pow_right (by decide) (by omega) : 16 ^ (j + 1) ≤ 16 ^ 8)⟩
            have HNX := Lib.hid (hnext HAC.out)
            clear hnext
            rcases hcases with ⟨c1, c2, h⟩ | ⟨c1, c2, h⟩ | ⟨c1, h⟩ | ⟨c1, c2, h⟩ | ⟨c1, h⟩
            · have h2 := HNX.out (m - 48) (by omega)
              have HN : Hid (16 * a + ((m : Int) - 48) = ((16 * acc + (m - 48) : Nat) : Int) ∧ 16 * acc + (m - 48) < 16 ^ (j + 1) ∧ spn 0 p = spn (16 * acc + (m - 48)) (p.drop (j + 1))) := Lib.hid ⟨by have := HA.out; omega, h2.1, hdec.trans (spn_cons h)⟩
              clear h h2 hdec
              go_wp2
              refine ⟨⟨j + 1, 16 * acc + (m - 48), 16 * a + ((m : Int) - 48), (by first | rfl | (congr 1; omega)), (by first | rfl | go_num | (congr 1; omega)), by omega, HN⟩, by simp [intOf]; omega⟩
            · have h2 := HNX.out (m - 87) (by omega)
              have HN : Hid (16 * a + ((m : Int) - 97 + 10) = ((16 * acc + (m - 87) : Nat) : Int) ∧ 16 * acc + (m - 87) < 16 ^ (j + 1) ∧ spn 0 p = spn (16 * acc + (m - 87)) (p.drop (j + 1))) := Lib.hid ⟨by have := HA.out; omega, h2.1, hdec.trans (spn_cons h)⟩
              clear h h2 hdec
              go_wp2
              refine ⟨⟨j + 1, 16 * acc + (m - 87), 16 * a + ((m : Int) - 97 + 10), (by first | rfl | (congr 1; omega)), (by first | rfl | go_num | (congr 1; omega)), by omega, HN⟩, by simp [intOf]; omega⟩
            all_goals (
              have HBB := Lib.hid (HB2.out (spx_none_spn (hdec.trans (spn_bad h))))
              clear h hdec
              go_wp2
              go_ret2
              exact RG.no HBB.out HB.out)
          · obtain rfl : j = 8 := by omega
            have hE : spn 0 p = some acc := by rw [hdec, List.drop_eq_nil_of_le (by rw [HP8.out]; exact Nat.le_refl _)]; rfl
            have ha := HA.out
            subst ha
            clear hdec
            by_cases he : fb acc = acc
            · have hsx := spx_some HP8.out hE he
              have hpr := spx_prd hsx
              have HKK := Lib.hid (HKS.out (by rw [hsx]; rfl))
              rw [hpr] at HNS
              have HE := Lib.hid he
              have HX := Lib.hid hp2
              clear hE hsx hpr he a1
              go_wp2_with (first
                | (go_at_call 67; refine (l01From_any acc _ HX.out).mono ?_; rintro e w' ⟨rfl, rfl⟩)
                | (go_at_call 68; refine (l01Bits_any acc _ HX.out).mono ?_; rintro e w' ⟨rfl, rfl⟩; rw [HE.out])
                | (at_builtin; refine push_to Tryd.underlying36 Fl.Tryd.info56 _ rfl _ _ rfl G cap (((ps.take k).map prd).map (Value.float .f32)) k (.float .f32 acc) (by rfl) HNL.out HR.out (by rfl) rfl (by omega) (by decide) rfl w.heap.size w HB.out HB.out.size hG ?_; intro G' cap' w3 hr3 hb3 hG3 hk3; obtain ⟨hrp3, hne3⟩ := hk3 _ _ _ _ HRP.out hne; have HR3 := Lib.hid hr3; have HB3 := Lib.hid hb3; have HRP3 := Lib.hid hrp3; clear hr3 hb3 hrp3 hk3))
              go_roundw
              case rel => exact ⟨k + 1, G', cap', by omega, by go_num, rfl, HKK.out, by rw [HNS.out]; exact HR3.out, HRP3.out, HB3.out, hG3, hne3⟩
              case measure => simp [intOf] <;> omega
            · have HBB := Lib.hid (HB2.out (spx_none_ne hE he))
              have hfi : ¬ ((fb acc : Int) = (acc : Int)) := by omega
              have hfb : ((fb acc : Int) == (acc : Int)) = false := by simpa using hfi
              have HX := Lib.hid hp2
              obtain ⟨fz, hfz⟩ : ∃ fz, fb acc = fz := ⟨_, rfl⟩
              have HFZ := Lib.hid hfz
              rw [hfz] at hfi hfb
              clear hE he hfz a1
              go_wp2_with (first
                | (go_at_call 67; refine (l01From_any acc _ HX.out).mono ?_; rintro e w' ⟨rfl, rfl⟩)
                | (go_at_call 68; refine (l01Bits_any acc _ HX.out).mono ?_; rintro e w' ⟨rfl, rfl⟩; rw [HFZ.out]))
              go_ret2
              exact RG.no HBB.out HB.out
      · obtain rfl : k = n := by omega
        have HYY : Hid (rn fb s.data.toList = some (ps.map prd)) := Lib.hid (HOK.out hnn (fun p hp => by
          obtain ⟨i, hi, rfl⟩ := List.getElem_of_mem hp
          exact HK.out i hi (by rw [← HLEN.out]; exact hi)))
        have HRn : Hid (Row wr G 56 cap ((ps.map prd).map (Value.float .f32))) := Lib.hid (by have := HR.out; rw [← HLEN.out, List.take_length] at this; exact this)
        go_wp2
        go_ret2
        exact RG.yes HYY.out (by rw [List.length_map]; exact HLEN.out) HRn.out hG HB.out

set_option maxHeartbeats 1000000 in
set_option maxRecDepth 100000 in
theorem specReadNumbers_any (s : ByteArray) (w : World) (hs : s.size ≤ 1048576) : Calls Tryd.prog 26 #[.string s] w (RG 56 (Value.float .f32) w (rn fb s.data.toList)) := by
  obtain ⟨o, ho⟩ : ∃ o, rn fb s.data.toList = o := ⟨_, rfl⟩
  have HO := Lib.hid ho
  rw [ho]; clear ho
  go_enter Tryd.func26, Tryd.ntmps26
  go_wp2_with fail
  go_at_call 51
  refine (l01NRead_any s _ hs).mono ?_
  rw [HO.out]
  rintro e w1 (⟨rfl, rfl, hb⟩ | ⟨vs, n, G, cap, rfl, hn, rfl, hr, hG, hb⟩)
  · have HB := Lib.hid hb; clear hb
    go_wp2
    go_ret2
    exact RG.no rfl HB.out
  · have HB := Lib.hid hb; have HN := Lib.hid hn; have HR := Lib.hid hr; clear hb hn hr
    go_wp2
    go_ret2
    exact RG.yes rfl HN.out HR.out hG HB.out

end Go.Proofs.YtjlbjlcficbdlaaDoor
