/-
  Walks: the law NumbersText: the reference's and the program's text of numbers, and the law. Conditions: the library's table for trailing zeros lies as its initialiser lays it.
-/
import Derived.Test.YtjlbjlcficbdlaaDoorE2
import Derived.Test.YtjlbjlcficbdlaaDoorD7
import Derived.Test.YtjlbjlcficbdlaaDoorDF
import Derived.Test.YtjlbjlcficbdlaaDoorWit
set_option linter.unusedVariables false
set_option linter.unusedSimpArgs false
namespace Go.Proofs.YtjlbjlcficbdlaaDoor
open Go Go.RowKit Flo Fl

/-! ### Texts put together -/
def preG {α : Type} (tx : α → List UInt8) (xs : List α) (k : Nat) : List UInt8 := Lib.join ((xs.take k).map tx) [44]
def txtG {α : Type} (tx : α → List UInt8) (xs : List α) : List UInt8 := if xs.isEmpty then n4 else Lib.join (xs.map tx) [44]
theorem preG_one {α : Type} {tx : α → List UInt8} {xs : List α} (h : 0 < xs.length) : preG tx xs 1 = tx xs[0] := by
  obtain ⟨x, r, rfl⟩ : ∃ x r, xs = x :: r := by cases xs with
    | nil => simp at h
    | cons x r => exact ⟨x, r, rfl⟩
  simp [preG, Lib.join_one]
theorem preG_succ {α : Type} {tx : α → List UInt8} {xs : List α} {k : Nat} (h1 : 1 ≤ k) (h : k < xs.length) : preG tx xs (k + 1) = preG tx xs k ++ [44] ++ tx xs[k] := by
  obtain ⟨x, r, rfl⟩ : ∃ x r, xs = x :: r := by cases xs with
    | nil => simp at h
    | cons x r => exact ⟨x, r, rfl⟩
  obtain ⟨j, rfl⟩ : ∃ j, k = j + 1 := ⟨k - 1, by omega⟩
  have hj : j < r.length := by simpa using h
  unfold preG
  rw [List.take_succ_cons, List.take_succ_cons, List.map_cons, List.map_cons, Lib.join_cons, Lib.join_cons, List.map_take, List.map_take,
    Lib.joinTail_take_succ [44] (r.map tx) j (tx r[j]) (by rw [List.getElem?_map, List.getElem?_eq_getElem hj]; rfl)]
  simp [List.append_assoc]
theorem preG_all {α : Type} {tx : α → List UInt8} {xs : List α} (h : 0 < xs.length) : preG tx xs xs.length = txtG tx xs := by
  unfold preG txtG
  rw [List.take_length, if_neg (by cases xs with
    | nil => simp at h
    | cons x r => simp)]
theorem preG_len {α : Type} {tx : α → List UInt8} {xs : List α} {b : Nat} (hb : ∀ x, (tx x).length = b) : ∀ k, 1 ≤ k → k ≤ xs.length → (preG tx xs k).length ≤ (b + 1) * k := by
  intro k
  induction k with
  | zero => intro h; omega
  | succ k ih =>
    intro _ h
    by_cases hk : k = 0
    · subst hk
      rw [preG_one (by omega), hb]; omega
    · rw [preG_succ (by omega) (by omega)]
      have h1 := ih (by omega) (by omega)
      simp only [List.length_append, List.length_cons, List.length_nil, hb]
      rw [Nat.mul_succ]; omega

/-- The text of a list of texts. -/
def joinG (ds : List ByteArray) : List UInt8 := if ds.isEmpty then n4 else Lib.join (ds.map (·.data.toList)) [44]

set_option maxHeartbeats 1000000 in
set_option maxRecDepth 100000 in
theorem joinedG_any (w : World) (G n cap : Nat) (ds : List ByteArray) (hn : ds.length = n) (hm : n ≤ 256) (hr : Row w G 9 cap (bsV ds)) (hlen : (Lib.join (ds.map (·.data.toList)) [44]).length ≤ 1000000) :
    Calls Tryd.prog 49 #[.slice (some ⟨G, 0, none⟩) n cap] w fun e w' => e = .returned (.string ⟨(joinG ds).toArray⟩) ∧ Below w.heap.size w w' := by
  by_cases h0 : n = 0
  · subst h0
    obtain rfl : ds = [] := List.length_eq_zero_iff.1 hn
    clear hr hlen
    go_enter Tryd.func49, Tryd.ntmps49
    go_wp2
    go_ret
    exact ⟨rfl, .refl _ _⟩
  · have mz : ((n : Int) == 0) = false := by simp; omega
    have hne : ds.isEmpty = false := by cases ds with
      | nil => simp at hn; omega
      | cons x r => rfl
    have htx : Lib.join (ds.map (·.data.toList)) [44] = joinG ds := by unfold joinG; rw [hne]; rfl
    rw [htx] at hlen
    have HJ : Hid (Calls Tryd.prog 66 #[.slice (some ⟨G, 0, none⟩) n cap, .string ⟨#[44]⟩] w fun e w' => e = .returned (.string ⟨(joinG ds).toArray⟩) ∧ Below w.heap.size w w') := Lib.hid (by
      have := Tryd.strings_Join G 0 cap ds ⟨#[44]⟩ w (fun j x hj => ?_) hr.lt (by omega) (by have := hr.cap; rw [bsV_len] at this; simpa using this) (by
        rw [show (⟨#[44]⟩ : ByteArray).data.toList = [44] from rfl, htx]; omega)
      · rw [show (⟨#[44]⟩ : ByteArray).data.toList = [44] from rfl, htx] at this
        simpa [hn] using this
      · obtain ⟨hj', he⟩ := List.getElem?_eq_some_iff.1 hj
        rw [Nat.zero_add, hr.cell j (by rw [bsV_len]; exact hj')]
        simp [bsV, he])
    clear hr htx hlen hne
    go_enter Tryd.func49, Tryd.ntmps49
    go_wp2_with (go_at_call 66; refine HJ.out.mono ?_; rintro e w1 ⟨rfl, hb⟩; have HB := Lib.hid hb; clear hb)
    go_ret
    exact ⟨rfl, HB.out⟩

/-! ### The reference's text -/
def hx8 (x : Nat) : List UInt8 := hexL 8 (fb x)
theorem hx8_len (x : Nat) : (hx8 x).length = 8 := hexL_len _ _
/-- Every number is one of 32 bits. -/
def U32 (xs : List Nat) : Prop := ∀ x ∈ xs, x < 4294967296

set_option maxHeartbeats 4000000 in
set_option maxRecDepth 100000 in
theorem l01NText_any (w : World) (g n c : Nat) (xs : List Nat) (hn : xs.length = n) (hm : n ≤ 256) (hx : Fl.Fd w g 0 xs) (hg : g < w.heap.size) (hbd : U32 xs) :
    Calls Tryd.prog 47 #[.slice (some ⟨g, 0, none⟩) n c] w fun e w' => e = .returned (.string ⟨(txtG hx8 xs).toArray⟩) ∧ Below w.heap.size w w' := by
  have HN := Lib.hid hn; have HX := Lib.hid hx; have HBD := Lib.hid hbd
  clear hn hx hbd
  by_cases h0 : n = 0
  · subst h0
    obtain rfl : xs = [] := List.length_eq_zero_iff.1 HN.out
    go_enter Tryd.func47, Tryd.ntmps47
    go_wp2
    go_ret
    exact ⟨rfl, .refl _ _⟩
  · have hp : 0 < xs.length := by rw [HN.out]; omega
    have hc := HX.out 0 hp
    rw [Nat.zero_add] at hc
    have hb0 := HBD.out _ (List.getElem_mem hp)
    have HP1 := Lib.hid (preG_one (tx := hx8) hp)
    have mz : ((n : Int) == 0) = false := by simp; omega
    have mp : (0 : Int) < (n : Int) := by omega
    have mpn : 0 < n := by omega
    have HFin : Hid (∀ u : ByteArray, u.data.toList = preG hx8 xs n → u = ⟨(txtG hx8 xs).toArray⟩) := Lib.hid (fun u hu => bytes_of (by rw [hu, ← HN.out]; exact preG_all hp))
    have HL1 : Hid ((preG hx8 xs 1).length ≤ 9) := Lib.hid (by rw [HP1.out, hx8_len]; omega)
    generalize xs[0] = x0 at hc hb0 HP1
    have HB0 := Lib.hid hb0
    clear hp hb0
    go_enter Tryd.func47, Tryd.ntmps47
    go_wp2_with (go_at_call 63; refine (l01Hex_any x0 _ HB0.out).mono ?_; rintro e w1 ⟨rfl, hb⟩; have HB := Lib.hid hb; clear hb)
    obtain ⟨u1, hu1⟩ : ∃ u : ByteArray, (⟨(hexL 8 (fb x0)).toArray⟩ : ByteArray) = u := ⟨_, rfl⟩
    rw [hu1]
    have HU1 : Hid (u1.data.toList = preG hx8 xs 1) := Lib.hid (by rw [← hu1, HP1.out]; rfl)
    clear hu1
    go_loopw [3, 4] (fun o i wr => ∃ (k : Nat) (u : ByteArray), 1 ≤ k ∧ k ≤ n ∧ i = .int .i64 k ∧ o = .string u ∧ u.data.toList = preG hx8 xs k ∧ (preG hx8 xs k).length ≤ 9 * k ∧ Below w.heap.size w wr) (fun _ i _ => n - (intOf i).toNat)
    case atStart => exact ⟨1, u1, by omega, by omega, rfl, rfl, HU1.out, HL1.out, HB.out⟩
    case round =>
      obtain ⟨k, u, k1, hk, rfl, rfl, hu, hl, hb⟩ := hrel
      have hus : u.size ≤ 9 * k := by rw [size_of hu]; exact hl
      have HU := Lib.hid hu; have HL := Lib.hid hl; have HBk := Lib.hid hb
      clear hu hl hb
      by_cases hlt : k < n
      · have hkx : k < xs.length := by rw [HN.out]; exact hlt
        have hc2 := (Fl.Fd.below HX.out HBk.out hg) k hkx
        rw [Nat.zero_add] at hc2
        have hbk := HBD.out _ (List.getElem_mem hkx)
        have HS := Lib.hid (preG_succ (tx := hx8) k1 hkx)
        generalize xs[k] = x at hc2 hbk HS
        have HBX := Lib.hid hbk
        clear hkx hbk
        obtain ⟨t, ht⟩ : ∃ t : ByteArray, (⟨(hexL 8 (fb x)).toArray⟩ : ByteArray) = t := ⟨_, rfl⟩
        have htl : t.data.toList = hx8 x := by rw [← ht]; rfl
        have hts : t.size = 8 := by rw [size_of htl]; exact hx8_len x
        have HT := Lib.hid ht; have HTL := Lib.hid htl
        clear ht htl
        obtain ⟨ct, hct⟩ : ∃ ct : ByteArray, (⟨#[44]⟩ : ByteArray) ++ t = ct := ⟨_, rfl⟩
        have hcl : ct.data.toList = [44] ++ hx8 x := by rw [← hct, Joins.data_append, HTL.out]
        have hcs : ct.size = 9 := by rw [size_of hcl]; simp [hx8_len]
        have ha1 : (Op.stringOp .add (⟨#[44]⟩ : ByteArray) t).run Tryd.prog = fun w => .ok (.string ct) w := by
          funext w; rw [run_string_add_sum w _ _ (by show 1 + t.size ≤ 9223372036854775807; omega), hct]
        have ha2 : (Op.stringOp .add u ct).run Tryd.prog = fun w => .ok (.string (u ++ ct)) w := by
          funext w; rw [run_string_add_sum w _ _ (by omega)]
        have HCL := Lib.hid hcl; have HA1 := Lib.hid ha1; have HA2 := Lib.hid ha2
        have HU2 : Hid ((u ++ ct).data.toList = preG hx8 xs (k + 1)) := Lib.hid (by rw [Joins.data_append, HU.out, HCL.out, HS.out]; simp [List.append_assoc])
        have HL2 : Hid ((preG hx8 xs (k + 1)).length ≤ 9 * (k + 1)) := Lib.hid (by rw [HS.out]; simp only [List.length_append, List.length_cons, List.length_nil, hx8_len]; have := HL.out; omega)
        clear hcl ha1 ha2 hct
        have a1 := fun w => congrFun HA1.out w
        have a2 := fun w => congrFun HA2.out w
        go_wp2_with (go_at_call 63; refine (l01Hex_any x _ HBX.out).mono ?_; rintro e w2 ⟨rfl, hb⟩; rw [HT.out]; have HB2 := Lib.hid hb; clear hb)
        go_roundw
        case rel => exact ⟨k + 1, u ++ ct, by omega, by omega, by go_num, rfl, HU2.out, HL2.out, HBk.out.trans (HB2.out.mono HBk.out.size)⟩
        case measure => simp [intOf]; omega
      · obtain rfl : k = n := by omega
        have HE := Lib.hid (HFin.out u HU.out)
        go_wp2
        go_ret
        exact ⟨congrArg (fun b => Ending.returned (.string b)) HE.out, HBk.out⟩

/-! ### The program's text -/
def hxB (x : Nat) : ByteArray := ⟨(hx8 x).toArray⟩
theorem hxB_map (xs : List Nat) : (xs.map hxB).map (·.data.toList) = xs.map hx8 := by
  rw [List.map_map]; exact List.map_congr_left fun x _ => rfl
theorem joinG_hx (xs : List Nat) : joinG (xs.map hxB) = txtG hx8 xs := by
  unfold joinG txtG
  rw [hxB_map]; simp
theorem take_snoc {α β : Type} (f : α → β) {xs : List α} {k : Nat} (h : k < xs.length) : (xs.take (k + 1)).map f = (xs.take k).map f ++ [f xs[k]] := by
  rw [List.take_succ_eq_append_getElem h, List.map_append]; rfl

/-- A text and whether there is one. -/
def ntV (xs : List Nat) : Value := if xs.length ≤ 256 then .tuple #[.string ⟨(txtG hx8 xs).toArray⟩, .bool true] else .tuple #[.string ⟨#[]⟩, .bool false]

set_option maxHeartbeats 1000000 in
set_option maxRecDepth 100000 in
theorem specNumbersText_any (w : World) (g n c : Nat) (xs : List Nat) (hn : xs.length = n) (hm : n ≤ 1048576) (hx : Fl.Fd w g 0 xs) (hg : g < w.heap.size) (hbd : U32 xs) :
    Calls Tryd.prog 22 #[.slice (some ⟨g, 0, none⟩) n c] w fun e w' => e = .returned (ntV xs) ∧ Below w.heap.size w w' := by
  have HN := Lib.hid hn; have HX := Lib.hid hx; have HBD := Lib.hid hbd
  unfold ntV
  rw [hn]
  by_cases ha : n ≤ 256
  · have hd : decide ((n : Int) ≤ 256) = true := by simp; omega
    rw [if_pos ha]
    clear hn hx hbd
    go_enter Tryd.func22, Tryd.ntmps22
    go_wp2_with (first
      | (go_at_call 46; refine (few_any n c _ hm _).mono ?_; rintro e w' ⟨rfl, rfl⟩; rw [hd])
      | (go_at_call 47; refine (l01NText_any _ g n c xs HN.out ha HX.out hg HBD.out).mono ?_; rintro e w1 ⟨rfl, hb⟩; have HB := Lib.hid hb; clear hb))
    go_ret2
    exact ⟨rfl, HB.out⟩
  · have hd : decide ((n : Int) ≤ 256) = false := by simp; omega
    rw [if_neg ha]
    clear hn hx hbd
    go_enter Tryd.func22, Tryd.ntmps22
    go_wp2_with (go_at_call 46; refine (few_any n c _ hm _).mono ?_; rintro e w' ⟨rfl, rfl⟩; rw [hd])
    go_ret2
    exact ⟨rfl, .refl _ _⟩

set_option maxHeartbeats 4000000 in
set_option maxRecDepth 100000 in
theorem implNumbersText_any (w : World) (g n c : Nat) (xs : List Nat) (hn : xs.length = n) (hm : n ≤ 1048576) (hx : Fl.Fd w g 0 xs) (hg : g < w.heap.size) (hbd : U32 xs) (hT : Tz w) :
    Calls Tryd.prog 24 #[.slice (some ⟨g, 0, none⟩) n c] w fun e w' => e = .returned (ntV xs) ∧ Below w.heap.size w w' := by
  have HN := Lib.hid hn; have HX := Lib.hid hx; have HBD := Lib.hid hbd; have HTZ := Lib.hid hT
  unfold ntV
  rw [hn]
  clear hn hx hbd hT
  by_cases ha : n ≤ 256
  case neg =>
    rw [if_neg ha]
    go_enter Tryd.func24, Tryd.ntmps24
    go_wp2
    go_ret2
    exact ⟨rfl, .refl _ _⟩
  rw [if_pos ha]
  have R0 := Lib.hid (row_fresh w 9)
  have B0 := Lib.hid ((Below.refl w.heap.size w).alloc (Nat.le_refl _) (.cells #[] 9))
  go_enter Tryd.func24, Tryd.ntmps24
  go_wp2
  go_loopw [4, 13] (fun o i wr => ∃ (k G cap : Nat), k ≤ n ∧ i = .int .i64 k ∧ o = .slice (some ⟨G, 0, none⟩) k cap ∧ Row wr G 9 cap (bsV ((xs.take k).map hxB)) ∧ Below w.heap.size w wr ∧ w.heap.size ≤ G) (fun _ i _ => n - (intOf i).toNat)
  case atStart => exact ⟨0, w.heap.size, 0, Nat.zero_le _, rfl, rfl, by simpa [bsV] using R0.out, B0.out, Nat.le_refl _⟩
  case round =>
    obtain ⟨k, G, cap, hk, rfl, rfl, hr, hb, hG⟩ := hrel
    have HR := Lib.hid hr; have HB := Lib.hid hb
    clear hr hb R0 B0
    by_cases hlt : k < n
    · have hkx : k < xs.length := by rw [HN.out]; exact hlt
      have hc2 := (Fl.Fd.below HX.out HB.out hg) k hkx
      rw [Nat.zero_add] at hc2
      have HBX := Lib.hid (HBD.out _ (List.getElem_mem hkx))
      have HS : Hid (bsV ((xs.take (k + 1)).map hxB) = bsV ((xs.take k).map hxB) ++ [.string (hxB xs[k])]) := Lib.hid (by rw [take_snoc hxB hkx, bsV_snoc])
      have HT : Hid ((bsV ((xs.take k).map hxB)).length = k) := Lib.hid (by rw [bsV_len, List.length_map, List.length_take]; omega)
      generalize xs[k] = x at hc2 HBX HS
      generalize bsV ((xs.take k).map hxB) = vs at HR HS HT
      clear hkx
      obtain ⟨t, ht⟩ : ∃ t : ByteArray, hxB x = t := ⟨_, rfl⟩
      have ht2 : (⟨(hexL 8 (fb x)).toArray⟩ : ByteArray) = t := ht
      have HTt := Lib.hid ht; have HTu := Lib.hid ht2
      clear ht ht2
      go_wp2_with (first
        | (go_at_call 48; refine (hexOf_any x _ HBX.out (HTZ.out.below HB.out)).mono ?_; rintro e w2 ⟨rfl, hb⟩; rw [HTu.out]; have HB2 := Lib.hid hb; have HBw := Lib.hid (HB.out.trans (HB2.out.mono HB.out.size)); have HRw := Lib.hid (HR.out.below HB2.out HR.out.lt); clear hb)
        | (at_builtin; refine push_at Tryd.underlying57 str_info _ rfl _ _ rfl G cap vs k (.string t) (by rfl) HT.out HRw.out (by rfl) rfl (by omega) (by decide) rfl w.heap.size w HBw.out HBw.out.size hG ?_; intro G' cap' w3 hr3 hb3 hG3; have HR3 := Lib.hid hr3; have HB3 := Lib.hid hb3; clear hr3 hb3))
      go_roundw
      case rel => exact ⟨k + 1, G', cap', by omega, by go_num, rfl, by rw [HS.out, HTt.out]; exact HR3.out, HB3.out, hG3⟩
      case measure => simp [intOf]; omega
    · obtain rfl : k = n := by omega
      have HRn : Hid (Row wr G 9 cap (bsV (xs.map hxB))) := Lib.hid (by have := HR.out; rw [← HN.out, List.take_length] at this; exact this)
      have HJL : Hid ((Lib.join ((xs.map hxB).map (·.data.toList)) [44]).length ≤ 1000000) := Lib.hid (by
        rw [hxB_map]
        by_cases h0 : xs.length = 0
        · rw [List.length_eq_zero_iff.1 h0]; decide
        · have h1 := preG_len (tx := hx8) (xs := xs) hx8_len xs.length (by omega) (Nat.le_refl _)
          unfold preG at h1
          rw [List.take_length] at h1
          have := HN.out
          omega)
      go_wp2_with (go_at_call 49; refine (joinedG_any _ G k cap (xs.map hxB) (by rw [List.length_map]; exact HN.out) ha HRn.out HJL.out).mono ?_; rintro e w2 ⟨rfl, hb⟩; rw [joinG_hx]; have HB2 := Lib.hid hb; clear hb)
      go_ret2
      exact ⟨rfl, HB.out.trans (HB2.out.mono HB.out.size)⟩

end Go.Proofs.YtjlbjlcficbdlaaDoor
