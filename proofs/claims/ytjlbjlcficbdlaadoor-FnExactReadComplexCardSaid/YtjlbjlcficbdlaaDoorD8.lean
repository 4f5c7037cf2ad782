/-
  Walks: the law ReadList. Conditions: the table of powers of ten and the two errors of the library lie as their initialisers lay them; the library's variable MaxLen holds an int.
-/
import Derived.Test.YtjlbjlcficbdlaaDoorD7
set_option linter.unusedVariables false
set_option linter.unusedSimpArgs false
namespace Go.Proofs.YtjlbjlcficbdlaaDoor
open Go Go.RowKit

theorem RL.isNone {w w' : World} {o : Option (List Int)} {e : Ending} (h : RL w o e w') (ho : o = none) : e = .returned (.tuple #[.slice none 0 0, .bool false]) ∧ Below w.heap.size w w' := by
  rcases h with ⟨_, h1, h2⟩ | ⟨vs, n, G, cap, h1, _⟩
  · exact ⟨h1, h2⟩
  · rw [ho] at h1; cases h1
theorem RL.isSome {w w' : World} {o : Option (List Int)} {e : Ending} {vs : List Int} {n : Nat} (h : RL w o e w') (ho : o = some vs) (hn : vs.length = n) :
    ∃ G cap, e = .returned (.tuple #[.slice (some ⟨G, 0, none⟩) n cap, .bool true]) ∧ Row w' G 2 cap (vs.map (Value.int .i64)) ∧ w.heap.size ≤ G ∧ Below w.heap.size w w' := by
  rcases h with ⟨h1, _⟩ | ⟨vs', n', G, cap, h1, h2, h3, h4, h5, h6⟩
  · rw [ho] at h1; cases h1
  · rw [ho] at h1; cases h1
    have : n = n' := by omega
    subst this
    exact ⟨G, cap, h3, h4, h5, h6⟩

set_option maxHeartbeats 4000000 in
set_option maxRecDepth 100000 in
theorem readList_walk_no (s : ByteArray) (w : World) (hs : s.size ≤ 1048576) (hp : Pow w) (hE : Errs w) (hM : MaxL w) (ho : rl s.data.toList = none) :
    Calls Tryd.prog 6 #[.string s] w fun e w' => e = .returned (.bool true) ∧ Below w.heap.size w w' := by
  have HP := Lib.hid hp; have HE := Lib.hid hE; have HM := Lib.hid hM; have HO := Lib.hid ho
  clear hp hE hM ho
  go_enter Tryd.func6, Tryd.ntmps6
  go_wp2_with fail
  go_at_call 18
  refine (specReadList_any s _ hs).mono ?_
  intro e w1 hr
  obtain ⟨rfl, hb⟩ := hr.isNone HO.out
  have B1 := Lib.hid hb; clear hb hr
  go_wp2_with fail
  go_at_call 19
  refine (implReadList_any s _ hs (HP.out.below B1.out) (HE.out.below B1.out) (HM.out.below B1.out)).mono ?_
  intro e w2 hr
  obtain ⟨rfl, hb⟩ := hr.isNone HO.out
  have B2 := Lib.hid (B1.out.trans (hb.mono B1.out.size)); clear hb hr
  go_wp2_with fail
  go_at_call 17
  refine (eqInt64S_any _ _ _ _ _ _ [] [] _ rfl rfl (.inl rfl) (.inl rfl) (Nat.zero_le _) (Nat.zero_le _)).mono ?_
  rintro e w3 ⟨rfl, hd⟩
  rw [eqB_self]
  have B3 := Lib.hid (B2.out.trans (hd.below (B := w.heap.size))); clear hd
  go_wp2_with fail
  go_at_call 20
  refine (mark_nil _ _ _ _).mono ?_
  rintro e w' ⟨rfl, rfl⟩
  go_wp2_with fail
  go_at_call 21
  refine (held_nil _ _ _ _).mono ?_
  rintro e w' ⟨rfl, rfl⟩
  go_wp2_with fail
  go_at_call 19
  refine (implReadList_any s _ hs (HP.out.below B3.out) (HE.out.below B3.out) (HM.out.below B3.out)).mono ?_
  intro e w4 hr
  obtain ⟨rfl, hb⟩ := hr.isNone HO.out
  have B4 := Lib.hid (B3.out.trans (hb.mono B3.out.size)); clear hb hr
  go_wp2_with fail
  go_at_call 17
  refine (eqInt64S_any _ _ _ _ _ _ [] [] _ rfl rfl (.inl rfl) (.inl rfl) (Nat.zero_le _) (Nat.zero_le _)).mono ?_
  rintro e w5 ⟨rfl, hd⟩
  rw [eqB_self]
  have B5 := Lib.hid (B4.out.trans (hd.below (B := w.heap.size))); clear hd
  go_wp2_with fail
  go_at_call 21
  refine (held_nil _ _ _ _).mono ?_
  rintro e w' ⟨rfl, rfl⟩
  go_wp2
  go_ret
  exact ⟨rfl, B5.out⟩

set_option maxHeartbeats 4000000 in
set_option maxRecDepth 100000 in
theorem readList_walk_yes (s : ByteArray) (w : World) (hs : s.size ≤ 1048576) (hp : Pow w) (hE : Errs w) (hM : MaxL w) (vs : List Int) (ho : rl s.data.toList = some vs) :
    Calls Tryd.prog 6 #[.string s] w fun e w' => e = .returned (.bool true) ∧ Below w.heap.size w w' := by
  have hl := rl_len ho
  obtain ⟨n, hn⟩ : ∃ n, vs.length = n := ⟨_, rfl⟩
  rw [hn] at hl
  have HP := Lib.hid hp; have HE := Lib.hid hE; have HM := Lib.hid hM; have HO := Lib.hid ho; have HN := Lib.hid hn
  clear hp hE hM ho hn
  go_enter Tryd.func6, Tryd.ntmps6
  go_wp2_with fail
  go_at_call 18
  refine (specReadList_any s _ hs).mono ?_
  intro e w1 hr
  obtain ⟨g1, c1, rfl, hrow, hg, hb⟩ := hr.isSome HO.out HN.out
  have V1 := Lib.hid hrow; have B1 := Lib.hid hb; clear hb hr hrow
  go_wp2_with fail
  go_at_call 19
  refine (implReadList_any s _ hs (HP.out.below B1.out) (HE.out.below B1.out) (HM.out.below B1.out)).mono ?_
  intro e w2 hr
  obtain ⟨g2, c2, rfl, hrow, hg2, hb⟩ := hr.isSome HO.out HN.out
  have G2 := Lib.hid hrow; have V2 := Lib.hid (V1.out.below hb V1.out.lt); have B2 := Lib.hid (B1.out.trans (hb.mono B1.out.size))
  have n12 : g1 ≠ g2 := by have := V1.out.lt; omega
  have b2 : w.heap.size ≤ g2 := by have := B1.out.size; omega
  clear hb hr hrow
  go_wp2_with fail
  go_at_call 17
  refine (eqInt64S_any _ _ _ _ _ _ vs vs _ HN.out HN.out G2.out.at' V2.out.at' (by omega) (by omega)).mono ?_
  rintro e w3 ⟨rfl, hd⟩
  rw [eqB_self]
  have G3 := Lib.hid (G2.out.dr hd); have V3 := Lib.hid (V2.out.dr hd); have B3 := Lib.hid (B2.out.trans (hd.below (B := w.heap.size))); clear hd
  go_wp2_with fail
  go_at_call 20
  refine (mark_any _ g2 n c2 vs _ HN.out (by omega) (by omega) (by omega) G3.out).mono ?_
  rintro e w4 ⟨rfl, hmk, ht⟩
  have G4 := Lib.hid hmk; have V4 := Lib.hid (V3.out.touch ht n12); have B4 := Lib.hid (B3.out.trans (ht.below b2 B3.out.size)); clear hmk ht
  go_wp2_with fail
  go_at_call 21
  refine (held_any _ g2 n c2 _ (by omega) (by omega) (by omega) G4.out.rd).mono ?_
  rintro e w' ⟨rfl, rfl⟩
  go_wp2_with fail
  go_at_call 19
  refine (implReadList_any s _ hs (HP.out.below B4.out) (HE.out.below B4.out) (HM.out.below B4.out)).mono ?_
  intro e w5 hr
  obtain ⟨g5, c5, rfl, hrow, hg5, hb⟩ := hr.isSome HO.out HN.out
  have H5 := Lib.hid hrow; have V5 := Lib.hid (V4.out.below hb V4.out.lt); have G5 := Lib.hid (G4.out.below hb G4.out.lt); have B5 := Lib.hid (B4.out.trans (hb.mono B4.out.size)); clear hb hr hrow
  go_wp2_with fail
  go_at_call 17
  refine (eqInt64S_any _ _ _ _ _ _ vs vs _ HN.out HN.out H5.out.at' V5.out.at' (by omega) (by omega)).mono ?_
  rintro e w6 ⟨rfl, hd⟩
  rw [eqB_self]
  have G6 := Lib.hid (G5.out.dr hd); have B6 := Lib.hid (B5.out.trans (hd.below (B := w.heap.size))); clear hd
  go_wp2_with fail
  go_at_call 21
  refine (held_any _ g2 n c2 _ (by omega) (by omega) (by omega) G6.out.rd).mono ?_
  rintro e w' ⟨rfl, rfl⟩
  go_wp2
  go_ret
  exact ⟨rfl, B6.out⟩

theorem readList_walk (s : ByteArray) (w : World) (hp : Pow w) (hE : Errs w) (hM : MaxL w) :
    Calls Tryd.prog 6 #[.string s] w fun e w' => e = .returned (.bool true) ∧ Below w.heap.size w w' := by
  by_cases hs : s.size ≤ 1048576
  · cases h : rl s.data.toList with
    | none => exact readList_walk_no s w hs hp hE hM h
    | some vs => exact readList_walk_yes s w hs hp hE hM vs h
  · clear hp hE hM
    go_enter Tryd.func6, Tryd.ntmps6
    go_wp2
    go_ret
    exact ⟨rfl, .refl _ _⟩

/-! ### The row's condition, with a shape -/

theorem pow_of_laid' {W : World} {a b : String × DataW Unit} {r : List (String × DataW Unit)} (h : laidMet Tryd.prog (a :: b :: ("internal/strconv.uint64pow10", Rows.laid_internal_strconv_uint64pow10) :: r) W) : Pow W := pow_of_laid h
theorem errs_of_laid4 {W : World} {a b c d : String × DataW Unit} {r : List (String × DataW Unit)} (h : laidMet Tryd.prog (a :: b :: c :: d :: ("strconv.ErrRange", Rows.laid_strconv_ErrRange) :: ("strconv.ErrSyntax", Rows.laid_strconv_ErrSyntax) :: r) W) : Errs W :=
  errs_of_laid (a := b) (b := c) (c := d) h.tail

theorem readList_law (s : ByteArray) (w : World) (_ : s.size ≤ maxLen) (hL : laidMet Tryd.prog Rows.fnExactReadListRow.laid w) (hsh : w.ShapedOpen Tryd.prog) :
    Calls Tryd.prog 6 #[.string s] w fun e w' => e = .returned (.bool true) ∧ Below w.heap.size w w' :=
  readList_walk s w (pow_of_laid hL) (errs_of_laid4 hL) (maxL_of_shape hsh)

end Go.Proofs.YtjlbjlcficbdlaaDoor
