/-
  Walks: the law ReadNumbers. Conditions: the library's table for trailing zeros and its two errors lie as their initialisers lay them; the library's variable MaxLen holds an int.
-/
import Derived.Test.YtjlbjlcficbdlaaDoorE5
import Derived.Test.YtjlbjlcficbdlaaDoorE8
import Derived.Test.YtjlbjlcficbdlaaDoorD8
set_option linter.unusedVariables false
set_option linter.unusedSimpArgs false
namespace Go.Proofs.YtjlbjlcficbdlaaDoor
open Go Go.RowKit Flo Fl

theorem rn_len' {B : Nat → Nat} {l : List UInt8} {vs : List Nat} (h : rn B l = some vs) : vs.length ≤ 256 := rn_len h
theorem mark1F (w : World) (g n c : Nat) (xs : List Nat) (hn : xs.length = n) (hm : n ≤ 256) (hr : Row w g 56 c (xs.map (Value.float .f32))) :
    Calls Tryd.prog 28 #[.slice (some ⟨g, 0, none⟩) n c, .int .i64 1] w fun e w' => e = .returned (.int .i64 (1 + (n : Int))) ∧ Row w' g 56 c ((iotaF 1 n).map (Value.float .f32)) ∧ Touch g w w' :=
  markF_any w g n c xs 1 hn hm (by decide) hr
theorem held1F (w : World) (g n c : Nat) (hm : n ≤ 256) (hr : Fl.Fd w g 0 (iotaF 1 n)) :
    Calls Tryd.prog 29 #[.slice (some ⟨g, 0, none⟩) n c, .int .i64 1] w fun e w' => e = .returned (.int .i64 (1 + (n : Int))) ∧ w = w' :=
  heldF_any w g n c 1 hm (by decide) hr
theorem row_iota {w : World} {g c : Nat} {xs : List Nat} (h : Row w g 56 c (xs.map (Value.float .f32))) : Fl.Fd w g 0 xs := row_fd h

set_option maxHeartbeats 4000000 in
set_option maxRecDepth 100000 in
theorem readNumbers_walk_no (s : ByteArray) (w : World) (hs : s.size ≤ 1048576) (hp : Tz w) (hE : Errs w) (hM : MaxL w) (ho : rn fb s.data.toList = none) :
    Calls Tryd.prog 8 #[.string s] w fun e w' => e = .returned (.bool true) ∧ Below w.heap.size w w' := by
  have HP := Lib.hid hp; have HE := Lib.hid hE; have HM := Lib.hid hM; have HO := Lib.hid ho
  clear hp hE hM ho
  go_enter Tryd.func8, Tryd.ntmps8
  go_wp2_with fail
  go_at_call 26
  refine (specReadNumbers_any s _ hs).mono ?_
  intro e w1 hr
  obtain ⟨rfl, hb⟩ := hr.isNone HO.out
  have B1 := Lib.hid hb; clear hb hr
  go_wp2_with fail
  go_at_call 27
  refine (implReadNumbers_any s _ hs (HP.out.below B1.out) (HE.out.below B1.out) (HM.out.below B1.out)).mono ?_
  intro e w2 hr
  obtain ⟨rfl, hb⟩ := hr.isNone HO.out
  have B2 := Lib.hid (B1.out.trans (hb.mono B1.out.size)); clear hb hr
  go_wp2_with fail
  go_at_call 25
  refine (eqF_nil _ _ _ _ _).mono ?_
  rintro e w' ⟨rfl, rfl⟩
  go_wp2_with fail
  go_at_call 28
  refine (markF_nil _ _ _ _).mono ?_
  rintro e w' ⟨rfl, rfl⟩
  go_wp2_with fail
  go_at_call 29
  refine (heldF_nil _ _ _ _).mono ?_
  rintro e w' ⟨rfl, rfl⟩
  go_wp2_with fail
  go_at_call 27
  refine (implReadNumbers_any s _ hs (HP.out.below B2.out) (HE.out.below B2.out) (HM.out.below B2.out)).mono ?_
  intro e w4 hr
  obtain ⟨rfl, hb⟩ := hr.isNone HO.out
  have B4 := Lib.hid (B2.out.trans (hb.mono B2.out.size)); clear hb hr
  go_wp2_with fail
  go_at_call 25
  refine (eqF_nil _ _ _ _ _).mono ?_
  rintro e w' ⟨rfl, rfl⟩
  go_wp2_with fail
  go_at_call 29
  refine (heldF_nil _ _ _ _).mono ?_
  rintro e w' ⟨rfl, rfl⟩
  go_wp2
  go_ret
  exact ⟨rfl, B4.out⟩

set_option maxHeartbeats 4000000 in
set_option maxRecDepth 100000 in
theorem readNumbers_walk_yes (s : ByteArray) (w : World) (hs : s.size ≤ 1048576) (hp : Tz w) (hE : Errs w) (hM : MaxL w) (vs : List Nat) (ho : rn fb s.data.toList = some vs) :
    Calls Tryd.prog 8 #[.string s] w fun e w' => e = .returned (.bool true) ∧ Below w.heap.size w w' := by
  have hl := rn_len' ho
  obtain ⟨n, hn⟩ : ∃ n, vs.length = n := ⟨_, rfl⟩
  rw [hn] at hl
  have HP := Lib.hid hp; have HE := Lib.hid hE; have HM := Lib.hid hM; have HO := Lib.hid ho; have HN := Lib.hid hn
  clear hp hE hM ho hn
  go_enter Tryd.func8, Tryd.ntmps8
  go_wp2_with fail
  go_at_call 26
  refine (specReadNumbers_any s _ hs).mono ?_
  intro e w1 hr
  obtain ⟨g1, c1, rfl, hrow, hg, hb⟩ := hr.isSome HO.out HN.out
  have V1 := Lib.hid hrow; have B1 := Lib.hid hb; clear hb hr hrow
  go_wp2_with fail
  go_at_call 27
  refine (implReadNumbers_any s _ hs (HP.out.below B1.out) (HE.out.below B1.out) (HM.out.below B1.out)).mono ?_
  intro e w2 hr
  obtain ⟨g2, c2, rfl, hrow, hg2, hb⟩ := hr.isSome HO.out HN.out
  have G2 := Lib.hid hrow; have V2 := Lib.hid (V1.out.below hb V1.out.lt); have B2 := Lib.hid (B1.out.trans (hb.mono B1.out.size))
  have n12 : g1 ≠ g2 := by have := V1.out.lt; omega
  have b2 : w.heap.size ≤ g2 := by have := B1.out.size; omega
  clear hb hr hrow
  go_wp2_with fail
  go_at_call 25
  refine (Fl.eqFloat32S_any _ _ _ _ _ _ _ vs _ HN.out (row_fd G2.out) (row_fd V2.out) (by omega)).mono ?_
  rintro e w3 ⟨rfl, hd⟩
  have G3 := Lib.hid (G2.out.dr hd); have V3 := Lib.hid (V2.out.dr hd); have B3 := Lib.hid (B2.out.trans (hd.below (B := w.heap.size))); clear hd
  go_wp2_with fail
  go_at_call 28
  refine (mark1F _ g2 n c2 vs HN.out hl G3.out).mono ?_
  rintro e w4 ⟨rfl, hmk, ht⟩
  have G4 := Lib.hid hmk; have V4 := Lib.hid (V3.out.touch ht n12); have B4 := Lib.hid (B3.out.trans (ht.below b2 B3.out.size)); clear hmk ht
  go_wp2_with fail
  go_at_call 29
  refine (held1F _ g2 n c2 hl (row_fd G4.out)).mono ?_
  rintro e w' ⟨rfl, rfl⟩
  go_wp2_with fail
  go_at_call 27
  refine (implReadNumbers_any s _ hs (HP.out.below B4.out) (HE.out.below B4.out) (HM.out.below B4.out)).mono ?_
  intro e w5 hr
  obtain ⟨g5, c5, rfl, hrow, hg5, hb⟩ := hr.isSome HO.out HN.out
  have H5 := Lib.hid hrow; have V5 := Lib.hid (V4.out.below hb V4.out.lt); have G5 := Lib.hid (G4.out.below hb G4.out.lt); have B5 := Lib.hid (B4.out.trans (hb.mono B4.out.size)); clear hb hr hrow
  go_wp2_with fail
  go_at_call 25
  refine (Fl.eqFloat32S_any _ _ _ _ _ _ _ vs _ HN.out (row_fd H5.out) (row_fd V5.out) (by omega)).mono ?_
  rintro e w6 ⟨rfl, hd⟩
  have G6 := Lib.hid (G5.out.dr hd); have B6 := Lib.hid (B5.out.trans (hd.below (B := w.heap.size))); clear hd
  go_wp2_with fail
  go_at_call 29
  refine (held1F _ g2 n c2 hl (row_fd G6.out)).mono ?_
  rintro e w' ⟨rfl, rfl⟩
  go_wp2
  go_ret
  exact ⟨rfl, B6.out⟩

theorem readNumbers_walk (s : ByteArray) (w : World) (hp : Tz w) (hE : Errs w) (hM : MaxL w) :
    Calls Tryd.prog 8 #[.string s] w fun e w' => e = .returned (.bool true) ∧ Below w.heap.size w w' := by
  by_cases hs : s.size ≤ 1048576
  · cases h : rn fb s.data.toList with
    | none => exact readNumbers_walk_no s w hs hp hE hM h
    | some vs => exact readNumbers_walk_yes s w hs hp hE hM vs h
  · clear hp hE hM
    go_enter Tryd.func8, Tryd.ntmps8
    go_wp2
    go_ret
    exact ⟨rfl, .refl _ _⟩

theorem readNumbers_law (s : ByteArray) (w : World) (_ : s.size ≤ maxLen) (hL : laidMet Tryd.prog Rows.fnExactReadNumbersRow.laid w) (hsh : w.ShapedOpen Tryd.prog) :
    Calls Tryd.prog 8 #[.string s] w fun e w' => e = .returned (.bool true) ∧ Below w.heap.size w w' :=
  readNumbers_walk s w (tz_of_laid hL) (errs_of_laid4 hL) (maxL_of_shape hsh)

end Go.Proofs.YtjlbjlcficbdlaaDoor
