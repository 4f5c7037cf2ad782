/-
  Walks: the law ReadNumbers: the program's functions. Conditions: the library's table for trailing zeros and its two errors lie as their initialisers lay them; the library's variable MaxLen holds an int.
-/
import Derived.Test.YtjlbjlcficbdlaaDoorE3
import Derived.Test.YtjlbjlcficbdlaaDoorE6
set_option linter.unusedVariables false
set_option linter.unusedSimpArgs false
namespace Go.Proofs.YtjlbjlcficbdlaaDoor
open Go Go.RowKit Flo Fl

theorem toErr_syntax (fn s : ByteArray) (w : World) (hs : s.size ≤ 1048576) (hE : Errs w) :
    Calls Tryd.prog 60 #[.string fn, .string s, .int .i64 16, .int .i64 32, .iface 90 (.int .i64 2)] w fun e w' => ∃ u p, e = .returned (.iface u p) ∧ Below w.heap.size w w' := by
  obtain ⟨⟨t, p, h1⟩, _⟩ := hE
  exact (Any.strconv_toError_syntax (P := Tryd.prog) (ρ := Tryd.laysC174_ren) { Tryd.laysC174 with } fn s 16 32 _ w (by omega) h1 (.inr ⟨t, p, rfl⟩)).mono fun e w' ⟨N, he, _, _, hb⟩ => ⟨_, _, he, hb⟩

set_option maxHeartbeats 2000000 in
set_option maxRecDepth 100000 in
theorem parseUint_16 (t : ByteArray) (h8 : t.size = 8) (w : World) (hE : Errs w) :
    Calls Tryd.prog 70 #[.string t, .int .i64 16, .int .i64 32] w fun e w' => ∃ v, e = .returned (.tuple #[.int .u64 (prd t.data.toList), v]) ∧ Below w.heap.size w w' := by
  have hnn := nil_nil
  have hhn := held_nil'
  have HE := Lib.hid hE
  clear hE
  obtain ⟨r, hr⟩ : ∃ r, pun 0 t.data.toList = r := ⟨_, rfl⟩
  have hp : prd t.data.toList = r.getD 0 := by unfold prd; rw [hr]
  rw [hp]
  have HR := Lib.hid hr
  clear hp hr
  cases r with
  | some n =>
    go_enter Tryd.func70, Tryd.ntmps70
    go_wp2_with (go_at_call 77; refine (parseUintI_16 t h8 _).mono ?_; rintro e w1 ⟨rfl, hb⟩; rw [HR.out]; unfold puV; have HB := Lib.hid hb; clear hb)
    go_ret2
    exact ⟨_, rfl, HB.out⟩
  | none =>
    go_enter Tryd.func70, Tryd.ntmps70
    go_wp2_with (first
      | (go_at_call 77; refine (parseUintI_16 t h8 _).mono ?_; rintro e w1 ⟨rfl, hb⟩; rw [HR.out]; unfold puV; have HB := Lib.hid hb; clear hb)
      | (go_at_call 60; refine (toErr_syntax _ t _ (by omega) (HE.out.below HB.out)).mono ?_; rintro e w2 ⟨u, p, rfl, hb⟩; have HB2 := Lib.hid hb; clear hb))
    go_ret2
    exact ⟨_, rfl, HB.out.trans (HB2.out.mono HB.out.size)⟩

section
attribute [local go_sem] run_f32from
set_option maxHeartbeats 2000000 in
set_option maxRecDepth 100000 in
theorem readHex_any (t : ByteArray) (h8 : t.size = 8) (w : World) (hE : Errs w) :
    Calls Tryd.prog 53 #[.string t] w fun e w' => e = .returned (.float .f32 (prd t.data.toList)) ∧ Below w.heap.size w w' := by
  have hlt : prd t.data.toList < 4294967296 := prd_lt (by rw [size_len]; exact h8)
  obtain ⟨n, hn⟩ : ∃ n, prd t.data.toList = n := ⟨_, rfl⟩
  have HN := Lib.hid hn
  rw [hn] at hlt ⊢
  have hw : IntKind.u32.wrap (n : Int) = n := by simp [IntKind.wrap, IntKind.signed, IntKind.bits]; omega
  have HE := Lib.hid hE
  clear hE hn
  go_enter Tryd.func53, Tryd.ntmps53
  go_wp2_with (go_at_call 70; refine (parseUint_16 t h8 _ HE.out).mono ?_; rintro e w1 ⟨v, rfl, hb⟩; rw [HN.out]; have HB := Lib.hid hb; clear hb)
  go_ret
  exact ⟨by first | rfl | (congr 2; omega), HB.out⟩
end

/-! ### Lists that come out -/
/-- A list and whether there is one. -/
def RG {α : Type} (T : TypeId) (f : α → Value) (w : World) (o : Option (List α)) (e : Ending) (w' : World) : Prop :=
  (o = none ∧ e = .returned (.tuple #[.slice none 0 0, .bool false]) ∧ Below w.heap.size w w') ∨
  ∃ vs n G cap, o = some vs ∧ vs.length = n ∧ e = .returned (.tuple #[.slice (some ⟨G, 0, none⟩) n cap, .bool true]) ∧ Row w' G T cap (vs.map f) ∧ w.heap.size ≤ G ∧ Below w.heap.size w w'
theorem RG.no {α : Type} {T : TypeId} {f : α → Value} {w w' : World} {o : Option (List α)} (h : o = none) (hb : Below w.heap.size w w') : RG T f w o (.returned (.tuple #[.slice none 0 0, .bool false])) w' := .inl ⟨h, rfl, hb⟩
theorem RG.yes {α : Type} {T : TypeId} {f : α → Value} {w w' : World} {o : Option (List α)} {vs : List α} {n G cap : Nat} (h : o = some vs) (hn : vs.length = n) (hr : Row w' G T cap (vs.map f)) (hG : w.heap.size ≤ G) (hb : Below w.heap.size w w') :
    RG T f w o (.returned (.tuple #[.slice (some ⟨G, 0, none⟩) n cap, .bool true])) w' := .inr ⟨vs, n, G, cap, h, hn, rfl, hr, hG, hb⟩
theorem RG.isNone {α : Type} {T : TypeId} {f : α → Value} {w w' : World} {o : Option (List α)} {e : Ending} (h : RG T f w o e w') (ho : o = none) : e = .returned (.tuple #[.slice none 0 0, .bool false]) ∧ Below w.heap.size w w' := by
  rcases h with ⟨_, h1, h2⟩ | ⟨vs, n, G, cap, h1, _⟩
  · exact ⟨h1, h2⟩
  · rw [ho] at h1; cases h1
theorem RG.isSome {α : Type} {T : TypeId} {f : α → Value} {w w' : World} {o : Option (List α)} {e : Ending} {vs : List α} {n : Nat} (h : RG T f w o e w') (ho : o = some vs) (hn : vs.length = n) :
    ∃ G cap, e = .returned (.tuple #[.slice (some ⟨G, 0, none⟩) n cap, .bool true]) ∧ Row w' G T cap (vs.map f) ∧ w.heap.size ≤ G ∧ Below w.heap.size w w' := by
  rcases h with ⟨h1, _⟩ | ⟨vs', n', G, cap, h1, h2, h3, h4, h5, h6⟩
  · rw [ho] at h1; cases h1
  · rw [ho] at h1; cases h1
    have : n = n' := by omega
    subst this
    exact ⟨G, cap, h3, h4, h5, h6⟩

theorem U32_prd {ps : List (List UInt8)} (h : ∀ p ∈ ps, p.length = 8) : U32 (ps.map prd) := by
  intro x hx
  obtain ⟨p, hp, rfl⟩ := List.mem_map.1 hx
  exact prd_lt (h p hp)
theorem row_fd {w : World} {G cap : Nat} {xs : List Nat} (h : Row w G 56 cap (xs.map (Value.float .f32))) : Fl.Fd w G 0 xs := fun j hj => by
  rw [Nat.zero_add, h.cell j (by simpa using hj)]; simp

set_option maxHeartbeats 8000000 in
set_option maxRecDepth 100000 in
theorem implReadNumbers_any (s : ByteArray) (w : World) (hs : s.size ≤ 1048576) (hT : Tz w) (hE : Errs w) (hM : MaxL w) : Calls Tryd.prog 27 #[.string s] w (RG 56 (Value.float .f32) w (rn fb s.data.toList)) := by
  have R0 := Lib.hid (row_fresh w 56)
  have B0 := Lib.hid ((Below.refl w.heap.size w).alloc (Nat.le_refl _) (.cells #[] 56))
  have HT := Lib.hid hT; have HE := Lib.hid hE; have HM := Lib.hid (hM.below B0.out)
  clear hT hE hM
  by_cases hn : s.data.toList = n4
  · have HF : Hid (∀ w', Row w' w.heap.size 56 0 [] → Below w.heap.size w w' → RG 56 (Value.float .f32) w (rn fb s.data.toList) (.returned (.tuple #[.slice (some ⟨w.heap.size, 0, none⟩) 0 0, .bool true])) w') :=
      Lib.hid (fun w' h1 h2 => RG.yes (vs := []) (by rw [hn]; exact rn_none) rfl h1 (Nat.le_refl _) h2)
    have HNN := Lib.hid hn
    have hcmp := (same_text (⟨n4.toArray⟩ : ByteArray) s).trans (decide_eq_true hn.symm)
    have hsz : (w.alloc (.cells #[] 56)).heap.size = w.heap.size + 1 := by simp
    have HSZ := Lib.hid hsz
    clear hn hsz
    obtain ⟨tn, htn⟩ : ∃ tn : ByteArray, (⟨n4.toArray⟩ : ByteArray) = tn := ⟨_, rfl⟩
    rw [htn] at hcmp
    have HV : Hid (ntV [] = .tuple #[.string tn, .bool true]) := Lib.hid (by rw [← htn]; rfl)
    clear htn
    go_enter Tryd.func27, Tryd.ntmps27
    go_wp2_with (go_at_call 52; refine (pieces_none s _ HNN.out).mono ?_; rintro e w' ⟨rfl, rfl⟩)
    refine wp_loop_rounds 1 ?_; rw [rounds_succ]
    go_wp2_with (go_at_call 24; refine (implNumbersText_any _ w.heap.size 0 0 [] rfl (Nat.zero_le _) (fun j hj => by cases hj) (by rw [HSZ.out]; omega) (fun x hx => by cases hx) (HT.out.below B0.out)).mono ?_; rintro e w2 ⟨rfl, hb⟩; rw [HV.out]; have HB2 := Lib.hid hb; clear hb)
    go_ret2
    exact HF.out _ (R0.out.below HB2.out R0.out.lt) (B0.out.trans (HB2.out.mono B0.out.size))
  · have HNN := Lib.hid hn
    have hsz : (w.alloc (.cells #[] 56)).heap.size = w.heap.size + 1 := by simp
    clear hn
    go_enter Tryd.func27, Tryd.ntmps27
    go_wp2_with fail
    go_at_call 52
    refine (pieces_any s _ hs HM.out HNN.out).mono ?_
    rintro e w1 ⟨GP, n, capP, ds, rfl, hrp, hlen, hmap, hGP, hb1⟩
    have hGP' : w.heap.size < GP := by rw [hsz] at hGP; omega
    have RO := Lib.hid (R0.out.below hb1 (by rw [hsz]; omega))
    have B1 := Lib.hid (B0.out.trans (hb1.mono B0.out.size))
    have RP := Lib.hid hrp
    obtain ⟨ps, hps⟩ : ∃ ps, cutsL [] s.data.toList = ps := ⟨_, rfl⟩
    have HPS := Lib.hid hps
    rw [hps] at hmap
    have HMAP := Lib.hid hmap
    have HLEN : Hid (ps.length = n) := Lib.hid (by rw [← hmap, List.length_map]; exact hlen)
    have HDS := Lib.hid hlen
    have hnle : n ≤ 1048577 := by
      have := cutsL_len s.data.toList []
      rw [hps, size_len] at this
      have := HLEN.out; omega
    have HSZ : Hid (∀ k (hk : k < ds.length) (hk' : k < ps.length), ds[k].data.toList = ps[k]) := Lib.hid (fun k hk hk' => by
      have : (ds.map (·.data.toList))[k]? = ps[k]? := by rw [hmap]
      rw [List.getElem?_map, List.getElem?_eq_getElem hk, List.getElem?_eq_getElem hk'] at this
      exact Option.some.inj this)
    have HBAD : Hid (∀ k (hk : k < ps.length), ps[k].length ≠ 8 → rn fb s.data.toList = none) := Lib.hid (fun k hk hv => by
      subst hps; exact rn_bad HNN.out hk (by unfold spx; rw [if_neg hv]))
    have HLONG : Hid (¬ n ≤ 256 → rn fb s.data.toList = none) := Lib.hid (fun h => rn_long HNN.out (by rw [hps, HLEN.out]; exact h))
    have HOK : Hid (n ≤ 256 → (∀ p ∈ ps, p.length = 8) → rn fb s.data.toList = if Lib.join ((ps.map prd).map hx8) [44] = s.data.toList then some (ps.map prd) else none) := Lib.hid (fun h1 h2 => by
      subst hps; exact rn_text fb_lt HNN.out (by rw [HLEN.out]; exact h1) h2)
    have HNE : Hid (ps ≠ []) := Lib.hid (by rw [← hps]; exact cutsL_ne _ _)
    clear hrp hlen hmap hb1 hps hGP R0 B0 hsz
    go_wp2
    go_loopw [4, 13] (fun o i wr => ∃ (k G cap : Nat), k ≤ n ∧ k ≤ 256 ∧ i = .int .i64 k ∧ o = .slice (some ⟨G, 0, none⟩) k cap ∧ (∀ i (h : i < ps.length), i < k → ps[i].length = 8) ∧ Row wr G 56 cap (((ps.take k).map prd).map (Value.float .f32)) ∧ Row wr GP 9 capP (bsV ds) ∧ Below w.heap.size w wr ∧ w.heap.size ≤ G ∧ GP ≠ G) (fun _ i _ => n - (intOf i).toNat)
    case atStart => exact ⟨0, w.heap.size, 0, Nat.zero_le _, Nat.zero_le _, rfl, rfl, fun i _ h => by omega, by simpa using RO.out, RP.out, B1.out, Nat.le_refl _, by omega⟩
    case round =>
      obtain ⟨k, G, cap, hk, hk2, rfl, rfl, hok, hr, hrp, hb, hG, hne⟩ := hrel
      have HK := Lib.hid hok; have HR := Lib.hid hr; have HRP := Lib.hid hrp; have HB := Lib.hid hb
      clear hok hr hrp hb RO RP B1
      by_cases hlt : k < n
      · have hkp : k < ps.length := by rw [HLEN.out]; exact hlt
        have hkd : k < ds.length := by rw [HDS.out]; exact hlt
        have hcell := HRP.out.cell k (by rw [bsV_len]; exact hkd)
        have hcv : (bsV ds)[k]'(by rw [bsV_len]; exact hkd) = .string ds[k] := by simp [bsV]
        rw [hcv] at hcell
        have hd1 := HSZ.out k hkd hkp
        have HB2 := Lib.hid (HBAD.out k hkp)
        have HNS : Hid (((ps.take (k + 1)).map prd).map (Value.float .f32) = ((ps.take k).map prd).map (Value.float .f32) ++ [.float .f32 (prd ps[k])]) := Lib.hid (by
          rw [List.map_map, List.map_map, take_snoc _ hkp]; rfl)
        have HNL : Hid ((((ps.take k).map prd).map (Value.float .f32)).length = k) := Lib.hid (by rw [List.length_map, List.length_map, List.length_take]; omega)
        have HKS : Hid (ps[k].length = 8 → ∀ i (h : i < ps.length), i < k + 1 → ps[i].length = 8) := Lib.hid (fun h8 i h hi => by
          by_cases e : i = k
          · subst e; exact h8
          · exact HK.out i h (by omega))
        generalize ds[k] = d at hcell hd1
        generalize ps[k] = p at hd1 HB2 HNS HKS
        have hpl : p.length = d.size := by rw [← hd1, size_len]
        have HD1 := Lib.hid hd1
        clear hcv hd1
        by_cases h8 : d.size = 8
        case neg =>
          have HBB := Lib.hid (HB2.out (by omega))
          have h8b : ((d.size : Int) == 8) = false := by simp; omega
          go_wp2
          go_ret2
          exact RG.no HBB.out HB.out
        by_cases h256 : k = 256
        · have HBB := Lib.hid (HLONG.out (by omega))
          subst h256
          go_wp2
          go_ret2
          exact RG.no HBB.out HB.out
        · have k256 : ((k : Int) == 256) = false := by simp; omega
          have HKK := Lib.hid (HKS.out (by omega))
          clear hpl
          go_wp2_with (first
            | (go_at_call 53; refine (readHex_any d h8 _ (HE.out.below HB.out)).mono ?_; rintro e w2 ⟨rfl, hb2⟩; rw [HD1.out]; have HW2 := Lib.hid hb2; have HBw := Lib.hid (HB.out.trans (HW2.out.mono HB.out.size)); have HR2 := Lib.hid (HR.out.below HW2.out HR.out.lt); have HRP2 := Lib.hid (HRP.out.below HW2.out HRP.out.lt); clear hb2)
            | (at_builtin; refine push_to Tryd.underlying36 Fl.Tryd.info56 _ rfl _ _ rfl G cap (((ps.take k).map prd).map (Value.float .f32)) k (.float .f32 (prd p)) (by rfl) HNL.out HR2.out (by rfl) rfl (by omega) (by decide) rfl w.heap.size w HBw.out HBw.out.size hG ?_; intro G' cap' w3 hr3 hb3 hG3 hk3; obtain ⟨hrp3, hne3⟩ := hk3 _ _ _ _ HRP2.out hne; have HR3 := Lib.hid hr3; have HB3 := Lib.hid hb3; have HRP3 := Lib.hid hrp3; clear hr3 hb3 hrp3 hk3))
          go_roundw
          case rel => exact ⟨k + 1, G', cap', by omega, by omega, by go_num, rfl, HKK.out, by rw [HNS.out]; exact HR3.out, HRP3.out, HB3.out, hG3, hne3⟩
          case measure => simp [intOf] <;> omega
      · obtain rfl : k = n := by omega
        have h8 : ∀ p ∈ ps, p.length = 8 := fun p hp => by
          obtain ⟨i, hi, rfl⟩ := List.getElem_of_mem hp
          exact HK.out i hi (by rw [← HLEN.out]; exact hi)
        have HYY := Lib.hid (HOK.out hk2 h8)
        have HU := Lib.hid (U32_prd h8)
        have HRn : Hid (Row wr G 56 cap ((ps.map prd).map (Value.float .f32))) := Lib.hid (by have := HR.out; rw [← HLEN.out, List.take_length] at this; exact this)
        have HXL : Hid ((ps.map prd).length = k) := Lib.hid (by rw [List.length_map]; exact HLEN.out)
        have htx : txtG hx8 (ps.map prd) = Lib.join ((ps.map prd).map hx8) [44] := by
          unfold txtG
          rw [if_neg (by cases hps : ps with
            | nil => exact absurd hps HNE.out
            | cons x r => simp)]
        obtain ⟨tn, htn⟩ : ∃ tn : ByteArray, (⟨(txtG hx8 (ps.map prd)).toArray⟩ : ByteArray) = tn := ⟨_, rfl⟩
        have HV : Hid (ntV (ps.map prd) = .tuple #[.string tn, .bool true]) := Lib.hid (by unfold ntV; rw [HXL.out, if_pos hk2, htn])
        have htl : tn.data.toList = Lib.join ((ps.map prd).map hx8) [44] := by rw [← htn, ← htx]
        have HTL := Lib.hid htl
        clear h8 htx htn htl
        by_cases he : tn.data.toList = s.data.toList
        · have HY : Hid (rn fb s.data.toList = some (ps.map prd)) := Lib.hid (by rw [HYY.out, if_pos (by rw [← HTL.out, he])])
          have hcmp := (same_text tn s).trans (decide_eq_true he)
          clear he
          go_wp2_with (go_at_call 24; refine (implNumbersText_any _ G k cap (ps.map prd) HXL.out (by omega) (row_fd HRn.out) HRn.out.lt HU.out (HT.out.below HB.out)).mono ?_; rintro e w2 ⟨rfl, hb⟩; rw [HV.out]; have HB2 := Lib.hid hb; clear hb)
          go_ret2
          exact RG.yes HY.out HXL.out (HRn.out.below HB2.out HRn.out.lt) hG (HB.out.trans (HB2.out.mono HB.out.size))
        · have HY : Hid (rn fb s.data.toList = none) := Lib.hid (by
            rw [HYY.out, if_neg (fun h => he (by rw [HTL.out, h]))])
          have hcmp := (same_text tn s).trans (decide_eq_false he)
          clear he
          go_wp2_with (go_at_call 24; refine (implNumbersText_any _ G k cap (ps.map prd) HXL.out (by omega) (row_fd HRn.out) HRn.out.lt HU.out (HT.out.below HB.out)).mono ?_; rintro e w2 ⟨rfl, hb⟩; rw [HV.out]; have HB2 := Lib.hid hb; clear hb)
          go_ret2
          exact RG.no HY.out (HB.out.trans (HB2.out.mono HB.out.size))

end Go.Proofs.YtjlbjlcficbdlaaDoor
