/-
  Walks: the law ListText: the program's text of a list, and the law. Conditions: the table of powers of ten lies as its initialiser lays it.
-/
import Derived.Test.YtjlbjlcficbdlaaDoorD5
set_option linter.unusedVariables false
set_option linter.unusedSimpArgs false
namespace Go.Proofs.YtjlbjlcficbdlaaDoor
open Go Go.RowKit

set_option maxRecDepth 100000 in
/-- append(s, v) of one element of one cell. -/
theorem push_at {t e : TypeId} {z : Value} {by' : Nat} (h1 : Tryd.prog.underlying t = some (.slice e)) (h2 : (Tryd.prog.info? e).map (fun i => (i.zero, i.size, i.bytes)) = some (some z, 1, by'))
    {ops : Array Oper} {rest : List Oper} {o : Oper} {a : Act} {Q : Exit → Act → World → Prop} (w : World) (hgd : o.guard = none) (s x : Operand)
    (ho : o.op = .call { callee := .builtin .append, args := #[s, x], argTypes := #[t, t] })
    (G cap : Nat) (xs : List Value) (n : Nat) (v : Value) (hs : a.eval s = .slice (some ⟨G, 0, none⟩) n cap) (hn : xs.length = n) (hrow : Row w G e cap xs)
    (hx : a.eval x = .slice (some ⟨w.heap.size, 0, none⟩) 1 1) (hv : v.oneCell' = true) (hsm : n + 1 ≤ 2000000) (hby : by' ≤ 64) (hzc : z.cells.size = 1)
    (B : Nat) (w0 : World) (hB : Below B w0 w) (hsz : B ≤ w.heap.size) (hG : B ≤ G)
    (h : ∀ G' cap' w', Row w' G' e cap' (xs ++ [v]) → Below B w0 w' → B ≤ G' → wpList Tryd.prog ops Q rest (a.put o.dst (.slice (some ⟨G', 0, none⟩) (n + 1) cap')) w') :
    wpList Tryd.prog ops Q (o :: rest) a (w.alloc (.cells #[v] e)) := by
  refine append_at h1 h2 _ hgd s x ho G cap xs n hs hn (hrow.alloc _) ⟨w.heap.size, 0, none⟩ 1 1 [v] hx rfl (cell_one_new w v e) (by intro u hu; simp at hu; subst hu; exact hv) hsm hby hzc fun G' cap' w' k1 k2 k3 => h G' cap' w' k1 ?_ ?_
  · exact (hB.alloc hsz _).grown k2 (by simp; omega) (fun k hk => by injection hk; omega)
  · rcases k3 with rfl | rfl
    · exact hG
    · simp; omega

def strOf (x : Int) : ByteArray := ⟨(Lib.itoa x).toArray⟩
def strV (xs : List Int) : List Value := xs.map fun x => .string (strOf x)
theorem strV_len (xs : List Int) : (strV xs).length = xs.length := by simp [strV]
theorem strV_succ {xs : List Int} {k : Nat} (h : k < xs.length) : strV (xs.take (k + 1)) = strV (xs.take k) ++ [.string (strOf xs[k])] := by
  unfold strV; rw [List.take_succ_eq_append_getElem h, List.map_append]; rfl
theorem str_info : (Tryd.prog.info? 9).map (fun i => (i.zero, i.size, i.bytes)) = some (some (.string ByteArray.empty), 1, 16) := by kernel_rfl

theorem pre_len {xs : List Int} (hbd : ∀ x ∈ xs, -1000000000000000 ≤ x ∧ x ≤ 1000000000000000) : ∀ k, 1 ≤ k → k ≤ xs.length → (pre xs k).length ≤ 18 * k := by
  intro k
  induction k with
  | zero => intro h; omega
  | succ k ih =>
    intro _ h
    by_cases hk : k = 0
    · subst hk
      rw [pre_one (by omega)]
      have := itoa_len (hbd xs[0] (List.getElem_mem _)); omega
    · rw [pre_succ (by omega) (by omega)]
      have h1 := ih (by omega) (by omega)
      have h2 := itoa_len (hbd xs[k] (List.getElem_mem _))
      simp only [List.length_append, List.length_cons, List.length_nil]; omega
theorem txtL_len {xs : List Int} (hbd : ∀ x ∈ xs, -1000000000000000 ≤ x ∧ x ≤ 1000000000000000) (h : 0 < xs.length) : (txtL xs).length ≤ 18 * xs.length := by
  rw [← pre_all h]; exact pre_len hbd _ (by omega) (Nat.le_refl _)

set_option maxHeartbeats 1000000 in
set_option maxRecDepth 100000 in
theorem joined_any (w : World) (G n cap : Nat) (xs : List Int) (hn : xs.length = n) (hm : n ≤ 64) (hr : Row w G 9 cap (strV xs)) (hbd : ∀ x ∈ xs, -1000000000000000 ≤ x ∧ x ≤ 1000000000000000) :
    Calls Tryd.prog 49 #[.slice (some ⟨G, 0, none⟩) n cap] w fun e w' => e = .returned (.string ⟨(txtL xs).toArray⟩) ∧ Below w.heap.size w w' := by
  by_cases h0 : n = 0
  · subst h0
    obtain rfl : xs = [] := List.length_eq_zero_iff.1 hn
    go_enter Tryd.func49, Tryd.ntmps49
    go_wp2
    go_ret
    exact ⟨rfl, .refl _ _⟩
  · have mz : ((n : Int) == 0) = false := by simp; omega
    have hp : 0 < xs.length := by omega
    have hne : xs ≠ [] := by intro e; subst e; simp at hp
    have hmap : (xs.map strOf).map (·.data.toList) = xs.map Lib.itoa := by
      rw [List.map_map]; refine List.map_congr_left fun x _ => ?_; rfl
    have htx : Lib.join ((xs.map strOf).map (·.data.toList)) [44] = txtL xs := by rw [hmap]; unfold txtL; rw [if_neg hne]
    have hlen := txtL_len hbd hp
    have HJ : Hid (Calls Tryd.prog 66 #[.slice (some ⟨G, 0, none⟩) n cap, .string ⟨#[44]⟩] w fun e w' => e = .returned (.string ⟨(txtL xs).toArray⟩) ∧ Below w.heap.size w w') := Lib.hid (by
      have := Tryd.strings_Join G 0 cap (xs.map strOf) ⟨#[44]⟩ w (fun j x hj => ?_) hr.lt (by simp; omega) (by have := hr.cap; rw [strV_len] at this; simpa using this) (by
        rw [show (⟨#[44]⟩ : ByteArray).data.toList = [44] from rfl, htx]; omega)
      · rw [show (⟨#[44]⟩ : ByteArray).data.toList = [44] from rfl, htx] at this
        simpa [hn] using this
      · obtain ⟨hj', he⟩ := List.getElem?_eq_some_iff.1 hj
        have hl : j < xs.length := by simpa using hj'
        rw [Nat.zero_add, hr.cell j (by rw [strV_len]; exact hl)]
        simp only [List.getElem_map] at he
        simp [strV, he])
    clear hr hbd hmap htx hlen hne hp
    go_enter Tryd.func49, Tryd.ntmps49
    go_wp2_with (go_at_call 66; refine HJ.out.mono ?_; rintro e w1 ⟨rfl, hb⟩; have HB := Lib.hid hb; clear hb)
    go_ret
    exact ⟨rfl, HB.out⟩

set_option maxHeartbeats 4000000 in
set_option maxRecDepth 100000 in
theorem listText_any (w : World) (g n c : Nat) (xs : List Int) (hn : xs.length = n) (hm : n ≤ 64) (hx : Rd w g 0 xs) (hg : g < w.heap.size) (hbd : ∀ x ∈ xs, -1000000000000000 ≤ x ∧ x ≤ 1000000000000000) (hp : Pow w) :
    Calls Tryd.prog 43 #[.slice (some ⟨g, 0, none⟩) n c] w fun e w' => e = .returned (.string ⟨(txtL xs).toArray⟩) ∧ Below w.heap.size w w' := by
  have HN := Lib.hid hn; have HX := Lib.hid hx; have HBD := Lib.hid hbd; have HP := Lib.hid hp
  have R0 := Lib.hid (row_fresh w 9)
  have B0 := Lib.hid ((Below.refl w.heap.size w).alloc (Nat.le_refl _) (.cells #[] 9))
  clear hn hx hbd hp
  go_enter Tryd.func43, Tryd.ntmps43
  go_wp2
  go_loopw [3, 9] (fun o i wr => ∃ (k G cap : Nat), k ≤ n ∧ i = .int .i64 k ∧ o = .slice (some ⟨G, 0, none⟩) k cap ∧ Row wr G 9 cap (strV (xs.take k)) ∧ Below w.heap.size w wr ∧ w.heap.size ≤ G) (fun _ i _ => n - (intOf i).toNat)
  case atStart => exact ⟨0, w.heap.size, 0, Nat.zero_le _, rfl, rfl, by simpa [strV] using R0.out, B0.out, Nat.le_refl _⟩
  case round =>
    obtain ⟨k, G, cap, hk, rfl, rfl, hr, hb, hG⟩ := hrel
    have HR := Lib.hid hr; have HB := Lib.hid hb
    clear hr hb R0 B0
    by_cases hlt : k < n
    · have hkx : k < xs.length := by rw [HN.out]; exact hlt
      have hc2 := (HX.out.below HB.out hg) k hkx
      rw [Nat.zero_add] at hc2
      have hbk := HBD.out _ (List.getElem_mem hkx)
      have HS := Lib.hid (strV_succ hkx)
      have HT : Hid ((strV (xs.take k)).length = k) := Lib.hid (by rw [strV_len, List.length_take]; omega)
      generalize xs[k] = x at hc2 hbk HS
      generalize strV (xs.take k) = vs at HR HS HT
      clear hkx
      obtain ⟨t, ht⟩ : ∃ t : ByteArray, strOf x = t := ⟨_, rfl⟩
      have ht2 : (⟨(Lib.itoa x).toArray⟩ : ByteArray) = t := ht
      have HTt := Lib.hid ht; have HTu := Lib.hid ht2
      clear ht ht2
      go_wp2_with (first
        | (go_at_call 11; refine (implDecimal_any x (by omega) (by omega) _ (HP.out.below HB.out)).mono ?_; rintro e w2 ⟨rfl, hb⟩; rw [HTu.out]; have HB2 := Lib.hid hb; have HBw := Lib.hid (HB.out.trans (HB2.out.mono HB.out.size)); have HRw := Lib.hid (HR.out.below HB2.out HR.out.lt); clear hb)
        | (at_builtin; refine push_at Tryd.underlying57 str_info _ rfl _ _ rfl G cap vs k (.string t) (by rfl) HT.out HRw.out (by rfl) rfl (by omega) (by decide) rfl w.heap.size w HBw.out HBw.out.size hG ?_; intro G' cap' w3 hr3 hb3 hG3; have HR3 := Lib.hid hr3; have HB3 := Lib.hid hb3; clear hr3 hb3))
      go_roundw
      case rel => exact ⟨k + 1, G', cap', by omega, by go_num, rfl, by rw [HS.out, HTt.out]; exact HR3.out, HB3.out, hG3⟩
      case measure => simp [intOf]; omega
    · obtain rfl : k = n := by omega
      have HRn : Hid (Row wr G 9 cap (strV xs)) := Lib.hid (by have := HR.out; rw [← HN.out, List.take_length] at this; exact this)
      go_wp2_with (go_at_call 49; refine (joined_any _ G k cap xs HN.out hm HRn.out HBD.out).mono ?_; rintro e w2 ⟨rfl, hb⟩; have HB2 := Lib.hid hb; clear hb)
      go_ret
      exact ⟨rfl, HB.out.trans (HB2.out.mono HB.out.size)⟩

/-- A text and whether there is one. -/
def ltV (xs : List Int) : Value := if avB xs then .tuple #[.string ⟨(txtL xs).toArray⟩, .bool true] else .tuple #[.string ⟨#[]⟩, .bool false]

set_option maxHeartbeats 1000000 in
set_option maxRecDepth 100000 in
theorem specListText_any (w : World) (g n c : Nat) (xs : List Int) (hn : xs.length = n) (hm : n ≤ 1048576) (hx : Rd w g 0 xs) (hg : g < w.heap.size) :
    Calls Tryd.prog 14 #[.slice (some ⟨g, 0, none⟩) n c] w fun e w' => e = .returned (ltV xs) ∧ Below w.heap.size w w' := by
  by_cases ha : avB xs = true
  · have h64 := avB_of ha
    rw [hn] at h64
    obtain ⟨h64, hbd⟩ := h64
    have HA := Lib.hid ha; have HN := Lib.hid hn; have HX := Lib.hid hx; have HBD := Lib.hid hbd
    clear ha hn hx hbd
    unfold ltV
    rw [HA.out, if_pos rfl]
    go_enter Tryd.func14, Tryd.ntmps14
    go_wp2_with (first
      | (go_at_call 40; refine (l01List_any _ g n c xs HN.out hm HX.out).mono ?_; rintro e w' ⟨rfl, rfl⟩; rw [HA.out])
      | (go_at_call 41; refine (l01Text_any _ g n c xs HN.out h64 HX.out hg HBD.out).mono ?_; rintro e w1 ⟨rfl, hb⟩; have HB := Lib.hid hb; clear hb))
    go_ret2
    exact ⟨rfl, HB.out⟩
  · have ha' : avB xs = false := by simpa using ha
    have HA := Lib.hid ha'; have HN := Lib.hid hn; have HX := Lib.hid hx
    clear ha ha' hn hx
    unfold ltV
    rw [HA.out, if_neg (by decide)]
    go_enter Tryd.func14, Tryd.ntmps14
    go_wp2_with (go_at_call 40; refine (l01List_any _ g n c xs HN.out hm HX.out).mono ?_; rintro e w' ⟨rfl, rfl⟩; rw [HA.out])
    go_ret2
    exact ⟨rfl, .refl _ _⟩

set_option maxHeartbeats 1000000 in
set_option maxRecDepth 100000 in
theorem implListText_any (w : World) (g n c : Nat) (xs : List Int) (hn : xs.length = n) (hm : n ≤ 1048576) (hx : Rd w g 0 xs) (hg : g < w.heap.size) (hp : Pow w) :
    Calls Tryd.prog 16 #[.slice (some ⟨g, 0, none⟩) n c] w fun e w' => e = .returned (ltV xs) ∧ Below w.heap.size w w' := by
  by_cases ha : avB xs = true
  · have h64 := avB_of ha
    rw [hn] at h64
    obtain ⟨h64, hbd⟩ := h64
    have HA := Lib.hid ha; have HN := Lib.hid hn; have HX := Lib.hid hx; have HBD := Lib.hid hbd; have HP := Lib.hid hp
    clear ha hn hx hbd hp
    unfold ltV
    rw [HA.out, if_pos rfl]
    go_enter Tryd.func16, Tryd.ntmps16
    go_wp2_with (first
      | (go_at_call 42; refine (areValues_any _ g n c xs HN.out hm HX.out).mono ?_; rintro e w' ⟨rfl, rfl⟩; rw [HA.out])
      | (go_at_call 43; refine (listText_any _ g n c xs HN.out h64 HX.out hg HBD.out HP.out).mono ?_; rintro e w1 ⟨rfl, hb⟩; have HB := Lib.hid hb; clear hb))
    go_ret2
    exact ⟨rfl, HB.out⟩
  · have ha' : avB xs = false := by simpa using ha
    have HA := Lib.hid ha'; have HN := Lib.hid hn; have HX := Lib.hid hx
    clear ha ha' hn hx
    unfold ltV
    rw [HA.out, if_neg (by decide)]
    go_enter Tryd.func16, Tryd.ntmps16
    go_wp2_with (go_at_call 42; refine (areValues_any _ g n c xs HN.out hm HX.out).mono ?_; rintro e w' ⟨rfl, rfl⟩; rw [HA.out])
    go_ret2
    exact ⟨rfl, .refl _ _⟩

set_option maxHeartbeats 4000000 in
set_option maxRecDepth 100000 in
theorem listText_walk (a0 : Option Addr) (len0 cap0 : Nat) (z0 : List Int) (w : World) (w0 : IsRow .i64 w a0 len0 cap0 z0) (hp : Pow w) :
    Calls Tryd.prog 5 #[.slice a0 len0 cap0] w fun e w' => e = .returned (.bool true) ∧ Below w.heap.size w w' := by
  by_cases h0 : len0 ≤ 1048576
  case neg =>
    clear w0 hp
    go_enter Tryd.func5, Tryd.ntmps5
    go_wp2
    go_ret
    exact ⟨rfl, .refl _ _⟩
  have hlz := w0.len
  have W0 := Lib.hid w0; have HP := Lib.hid hp
  have HL := Lib.hid (take_len hlz)
  clear w0 hp hlz
  obtain ⟨xs, hxs⟩ : ∃ xs, z0.take len0 = xs := ⟨_, rfl⟩
  rw [hxs] at HL
  have HXS := Lib.hid hxs; clear hxs
  obtain ⟨vt, hvt⟩ : ∃ v, ltV xs = v := ⟨_, rfl⟩
  have HV := Lib.hid hvt
  obtain ⟨t, b, hv2⟩ : ∃ (t : ByteArray) (b : Bool), ltV xs = .tuple #[.string t, .bool b] := by
    unfold ltV
    split
    · exact ⟨_, _, rfl⟩
    · exact ⟨_, _, rfl⟩
  have HV2 := Lib.hid hv2
  have hcmp := (same_text t t).trans (decide_eq_true rfl)
  have hbb : (b != b) = false := by simp
  have hbe : (b == b) = true := by simp
  clear hvt hv2
  go_enter Tryd.func5, Tryd.ntmps5
  go_wp2_with fail
  go_at_call 15
  refine (toInt64S_any a0 len0 cap0 z0 _ W0.out h0).mono ?_
  rintro e w1 ⟨g1, rfl, hr, hg, hb⟩
  rw [HXS.out, HL.out] at hr
  rw [HXS.out, HL.out]
  have R1 := Lib.hid hr; have B1 := Lib.hid hb; clear hr hb hg
  go_wp2_with fail
  go_at_call 14
  refine (specListText_any _ g1 len0 len0 xs HL.out h0 R1.out.rd R1.out.lt).mono ?_
  rintro e w2 ⟨rfl, hb⟩
  rw [HV2.out]
  have B2 := Lib.hid (B1.out.trans (hb.mono B1.out.size)); clear hb R1
  go_wp2_with fail
  go_at_call 15
  refine (toInt64S_any a0 len0 cap0 z0 _ (W0.out.below B2.out) h0).mono ?_
  rintro e w3 ⟨g3, rfl, hr, hg, hb⟩
  rw [HXS.out, HL.out] at hr
  rw [HXS.out, HL.out]
  have R3 := Lib.hid hr; have B3 := Lib.hid (B2.out.trans (hb.mono B2.out.size)); clear hr hb hg
  go_wp2_with fail
  go_at_call 16
  refine (implListText_any _ g3 len0 len0 xs HL.out h0 R3.out.rd R3.out.lt (HP.out.below B3.out)).mono ?_
  rintro e w4 ⟨rfl, hb⟩
  rw [HV2.out]
  have R4 := Lib.hid (R3.out.below hb R3.out.lt); have B4 := Lib.hid (B3.out.trans (hb.mono B3.out.size)); clear hb R3
  cases b
  all_goals (
    go_wp2_with fail
    go_at_call 15
    refine (toInt64S_any a0 len0 cap0 z0 _ (W0.out.below B4.out) h0).mono ?_
    rintro e w5 ⟨g5, rfl, hr, hg, hb⟩
    rw [HXS.out, HL.out] at hr
    rw [HXS.out, HL.out]
    have R5 := Lib.hid hr; have R4' := Lib.hid (R4.out.below hb R4.out.lt); have B5 := Lib.hid (B4.out.trans (hb.mono B4.out.size)); clear hr hb hg
    go_wp2_with fail
    go_at_call 17
    refine (eqInt64S_any _ _ _ _ _ _ xs xs _ HL.out HL.out R4'.out.at' R5.out.at' h0 h0).mono ?_
    rintro e w6 ⟨rfl, hd⟩
    rw [eqB_self]
    have B6 := Lib.hid (B5.out.trans (hd.below (B := w.heap.size))); clear hd
    go_wp2
    go_ret
    exact ⟨rfl, B6.out⟩)

theorem listText_law (a0 : Option Addr) (len0 cap0 : Nat) (z0 : List Int) (w : World) (w0 : IsRow .i64 w a0 len0 cap0 z0) (hL : laidMet Tryd.prog Rows.fnExactListTextRow.laid w) :
    Calls Tryd.prog 5 #[.slice a0 len0 cap0] w fun e w' => e = .returned (.bool true) ∧ Below w.heap.size w w' :=
  listText_walk a0 len0 cap0 z0 w w0 (pow_of_laid hL)

end Go.Proofs.YtjlbjlcficbdlaaDoor
