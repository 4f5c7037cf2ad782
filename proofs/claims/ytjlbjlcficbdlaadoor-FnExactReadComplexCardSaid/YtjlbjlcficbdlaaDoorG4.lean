/-
  Walks: the law ReadComplex: the program's text of complex numbers; a step of a region that appends. Conditions: the library's table for trailing zeros lies as its initialiser lays it.
-/
import Derived.Test.YtjlbjlcficbdlaaDoorE7
import Derived.Test.YtjlbjlcficbdlaaDoorG2
import Derived.Deep.RegionHeld3
import Derived.Deep.AppendLies
set_option linter.unusedVariables false
set_option linter.unusedSimpArgs false
namespace Go.Proofs.YtjlbjlcficbdlaaDoor
open Go Go.RowKit Flo Fl

/-! ### The program's text -/
def tx16 (v : Nat × Nat) : List UInt8 := hx16 fb v
def txB (v : Nat × Nat) : ByteArray := ⟨(tx16 v).toArray⟩
theorem tx16_len (v : Nat × Nat) : (tx16 v).length = 16 := hx16_len _ _
theorem txB_map (xs : List (Nat × Nat)) : (xs.map txB).map (·.data.toList) = xs.map tx16 := by
  rw [List.map_map]; exact List.map_congr_left fun x _ => rfl
theorem joinG_tx (xs : List (Nat × Nat)) : joinG (xs.map txB) = txtG tx16 xs := by
  unfold joinG txtG
  rw [txB_map]; simp
/-- Every part is a number of 32 bits. -/
def C32 (xs : List (Nat × Nat)) : Prop := ∀ x ∈ xs, x.1 < 4294967296 ∧ x.2 < 4294967296
/-- A text and whether there is one. -/
def ctV (xs : List (Nat × Nat)) : Value := if xs.length ≤ 256 then .tuple #[.string ⟨(txtG tx16 xs).toArray⟩, .bool true] else .tuple #[.string ⟨#[]⟩, .bool false]

set_option maxHeartbeats 8000000 in
set_option maxRecDepth 100000 in
theorem implComplexText_any (w : World) (g n c : Nat) (xs : List (Nat × Nat)) (hn : xs.length = n) (hm : n ≤ 256) (hx : Cd w g 0 xs) (hg : g < w.heap.size) (hbd : C32 xs) (hT : Tz w) :
    Calls Tryd.prog 55 #[.slice (some ⟨g, 0, none⟩) n c] w fun e w' => e = .returned (ctV xs) ∧ Below w.heap.size w w' := by
  have HN := Lib.hid hn; have HX := Lib.hid hx; have HBD := Lib.hid hbd; have HTZ := Lib.hid hT
  unfold ctV
  rw [hn, if_pos hm]
  clear hn hx hbd hT
  have R0 := Lib.hid (row_fresh w 9)
  have B0 := Lib.hid ((Below.refl w.heap.size w).alloc (Nat.le_refl _) (.cells #[] 9))
  go_enter Tryd.func55, Tryd.ntmps55
  go_wp2
  go_loopw [4, 13] (fun o i wr => ∃ (k G cap : Nat), k ≤ n ∧ i = .int .i64 k ∧ o = .slice (some ⟨G, 0, none⟩) k cap ∧ Row wr G 9 cap (bsV ((xs.take k).map txB)) ∧ Below w.heap.size w wr ∧ w.heap.size ≤ G) (fun _ i _ => n - (intOf i).toNat)
  case atStart => exact ⟨0, w.heap.size, 0, Nat.zero_le _, rfl, rfl, by simpa [bsV] using R0.out, B0.out, Nat.le_refl _⟩
  case round =>
    obtain ⟨k, G, cap, hk, rfl, rfl, hr, hb, hG⟩ := hrel
    have HR := Lib.hid hr; have HB := Lib.hid hb
    clear hr hb R0 B0
    by_cases hlt : k < n
    · have hkx : k < xs.length := by rw [HN.out]; exact hlt
      have hc2 := (Cd.below HX.out HB.out hg) k hkx
      rw [Nat.zero_add] at hc2
      have hbx := HBD.out _ (List.getElem_mem hkx)
      have HS : Hid (bsV ((xs.take (k + 1)).map txB) = bsV ((xs.take k).map txB) ++ [.string (txB xs[k])]) := Lib.hid (by rw [take_snoc txB hkx, bsV_snoc])
      have HT : Hid ((bsV ((xs.take k).map txB)).length = k) := Lib.hid (by rw [bsV_len, List.length_map, List.length_take]; omega)
      generalize xs[k] = x at hc2 hbx HS
      generalize bsV ((xs.take k).map txB) = vs at HR HS HT
      obtain ⟨xa, xb⟩ := x
      have HA := Lib.hid hbx.1; have HBx := Lib.hid hbx.2
      clear hkx hbx
      obtain ⟨ta, hta⟩ : ∃ t : ByteArray, (⟨(hexL 8 (fb xa)).toArray⟩ : ByteArray) = t := ⟨_, rfl⟩
      obtain ⟨tb, htb⟩ : ∃ t : ByteArray, (⟨(hexL 8 (fb xb)).toArray⟩ : ByteArray) = t := ⟨_, rfl⟩
      have sa : ta.size = 8 := by rw [← hta]; simp [ByteArray.size, hexL_len]
      have sb : tb.size = 8 := by rw [← htb]; simp [ByteArray.size, hexL_len]
      obtain ⟨t, ht⟩ : ∃ t : ByteArray, txB (xa, xb) = t := ⟨_, rfl⟩
      have hadd : ta ++ tb = t := by
        rw [← ht, ← hta, ← htb]
        apply ByteArray.ext
        simp [txB, tx16, hx16]
      have ha1 : ∀ W, (Op.stringOp .add ta tb).run Tryd.prog W = .ok (.string t) W := by
        intro W; rw [run_string_add_sum W _ _ (by omega), hadd]
      have HTa := Lib.hid hta; have HTb := Lib.hid htb; have HTt := Lib.hid ht
      clear hta htb ht hadd
      go_wp2_with fail
      go_at_call 48
      refine (hexOf_any xa _ HA.out (HTZ.out.below HB.out)).mono ?_
      rintro e w2 ⟨rfl, hb⟩
      rw [HTa.out]
      have HB2 := Lib.hid (HB.out.trans (hb.mono HB.out.size)); have HR2 := Lib.hid (HR.out.below hb HR.out.lt)
      clear hb
      go_wp2_with fail
      go_at_call 48
      refine (hexOf_any xb _ HBx.out (HTZ.out.below HB2.out)).mono ?_
      rintro e w3 ⟨rfl, hb⟩
      rw [HTb.out]
      have HBw := Lib.hid (HB2.out.trans (hb.mono HB2.out.size)); have HRw := Lib.hid (HR2.out.below hb HR2.out.lt)
      clear hb
      go_wp2_with (at_builtin; refine push_at Tryd.underlying57 str_info _ rfl _ _ rfl G cap vs k (.string t) (by rfl) HT.out HRw.out (by rfl) rfl (by omega) (by decide) rfl w.heap.size w HBw.out HBw.out.size hG ?_; intro G' cap' w3 hr3 hb3 hG3; have HR3 := Lib.hid hr3; have HB3 := Lib.hid hb3; clear hr3 hb3)
      go_roundw
      case rel => exact ⟨k + 1, G', cap', by omega, by go_num, rfl, by rw [HS.out, HTt.out]; exact HR3.out, HB3.out, hG3⟩
      case measure => simp [intOf]; omega
    · obtain rfl : k = n := by omega
      have HRn : Hid (Row wr G 9 cap (bsV (xs.map txB))) := Lib.hid (by have := HR.out; rw [← HN.out, List.take_length] at this; exact this)
      have HJL : Hid ((Lib.join ((xs.map txB).map (·.data.toList)) [44]).length ≤ 1000000) := Lib.hid (by
        rw [txB_map]
        by_cases h0 : xs.length = 0
        · rw [List.length_eq_zero_iff.1 h0]; decide
        · have h1 := preG_len (tx := tx16) (xs := xs) tx16_len xs.length (by omega) (Nat.le_refl _)
          unfold preG at h1
          rw [List.take_length] at h1
          have := HN.out
          omega)
      go_wp2_with (go_at_call 49; refine (joinedG_any _ G k cap (xs.map txB) (by rw [List.length_map]; exact HN.out) hm HRn.out HJL.out).mono ?_; rintro e w2 ⟨rfl, hb⟩; rw [joinG_tx]; have HB2 := Lib.hid hb; clear hb)
      go_ret2
      exact ⟨rfl, HB.out.trans (HB2.out.mono HB.out.size)⟩

/-! ### A region that draws its order, calls twice and appends -/
theorem errs_dr {w w' : World} (hd : Dr w w') (h : Errs w) : Errs w' := by
  obtain ⟨n, rfl⟩ := hd; exact h
theorem chain_dr {w wr W w2 : World} (h : Below w.heap.size w wr) (hd : Dr wr W) (hb : Below W.heap.size W w2) : Below w.heap.size w w2 := by
  obtain ⟨n, rfl⟩ := hd
  exact h.trans ((below_drewN (Below.refl _ _) n).trans (hb.mono (show w.heap.size ≤ wr.heap.size from h.size)))
theorem row_chain {wr W w2 : World} {g c : Nat} {T : TypeId} {vs : List Value} (h : Row wr g T c vs) (hd : Dr wr W) (hb : Below W.heap.size W w2) : Row w2 g T c vs :=
  (h.dr hd).below hb (h.dr hd).lt

set_option maxRecDepth 100000 in
theorem step_push {t e : TypeId} {z : Value} {by' : Nat} (h1 : Tryd.prog.underlying t = some (.slice e)) (h2 : (Tryd.prog.info? e).map (fun i => (i.zero, i.size, i.bytes)) = some (some z, 1, by'))
    {ops : Array Oper} {o : Oper} {a : Act} {K : Act → World → Prop} {Q : Exit → Act → World → Prop} {E : Prop} {w W : World} (hgd : o.guard = none) (s x : Operand)
    (ho : o.op = .call { callee := .builtin .append, args := #[s, x], argTypes := #[t, t] })
    (v : Value) (hW : Dr (w.alloc (.cells #[v] e)) W)
    (G cap : Nat) (xs : List Value) (n : Nat) (hs : a.eval s = .slice (some ⟨G, 0, none⟩) n cap) (hn : xs.length = n) (hrow : Row w G e cap xs)
    (hx : a.eval x = .slice (some ⟨w.heap.size, 0, none⟩) 1 1) (hv : v.oneCell' = true) (hsm : n + 1 ≤ 2000000) (hby : by' ≤ 64) (hzc : z.cells.size = 1)
    (B : Nat) (w0 : World) (hB : Below B w0 w) (hsz : B ≤ w.heap.size) (hG : B ≤ G)
    (h : ∀ G' cap' w', Row w' G' e cap' (xs ++ [v]) → Below B w0 w' → B ≤ G' → (∀ g c T vs, Row w g T c vs → g ≠ G → Row w' g T c vs ∧ g ≠ G') → K (a.put o.dst (.slice (some ⟨G', 0, none⟩) (n + 1) cap')) w') :
    if Region.wanted o (yielded ops a.tmps) = true then Oper.wp Tryd.prog o a W K Q else E := by
  obtain ⟨i2, hi2, hz0, hz1, hz2⟩ := info_parts h2
  have hr := (hrow.alloc (.cells #[v] e)).dr hW
  have hb : (n + 1) * by' ≤ 140737488355328 := Nat.le_trans (Nat.mul_le_mul hsm hby) (by decide)
  have hWs : W.heap.size = w.heap.size + 1 := by obtain ⟨q, rfl⟩ := hW; simp
  have hnews : ∀ j u, [v][j]? = some u → W.cell? ((⟨w.heap.size, 0, none⟩ : Addr).add j) = some u := by
    obtain ⟨q, rfl⟩ := hW
    exact cell_one_new w v e
  refine step_append_lies W hgd s x t ho 0 e i2 z 1 by' h1 hi2 hz0 hz1 hz2 hzc (by decide) (.slice (some ⟨G, 0, none⟩) n cap) n xs hs (hr.owns hn (Nat.zero_le _)) ⟨w.heap.size, 0, none⟩ 1 1 [v] hx rfl hnews (by intro u hu; simp at hu; subst hu; exact hv) (by decide) (by unfold maxLen; omega) hb (Nat.zero_le _) W.heap.size rfl fun g cap' w' h2 h3 h4 h5 => h g cap' w' (Row.of_owns h2).1 ?_ ?_ ?_
  · exact ((hB.alloc hsz _).trans hW.below).grown h3 (by rw [hWs]; omega) (fun k hk => (show G = k by simpa [Value.ownBlock] using hk) ▸ hG)
  · rcases h4 with h4 | rfl
    · have : G = g := by simpa [Value.ownBlock] using h4
      omega
    · omega
  · intro g' c T vs hr' hne
    have hl := hr'.lt
    refine ⟨((hr'.alloc _).dr hW).touch h3 hne, ?_⟩
    rcases h4 with h4 | rfl
    · have : G = g := by simpa [Value.ownBlock] using h4
      omega
    · omega

end Go.Proofs.YtjlbjlcficbdlaaDoor
