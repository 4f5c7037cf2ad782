/-
  Walks: the library's text of a number in base 16, the program's eight digits of a number. Conditions: the library's table for trailing zeros lies as its initialiser lays it.
-/
import Derived.Test.YtjlbjlcficbdlaaDoorE1
import Derived.Test.YtjlbjlcficbdlaaDoorShR
import Derived.Lib.LaidTab
set_option linter.unusedVariables false
set_option linter.unusedSimpArgs false
namespace Go.Proofs.YtjlbjlcficbdlaaDoor
open Go Go.RowKit Flo

/-- The table of trailing zeros holds 4 at the place that 16 hashes to. -/
def Tz (w : World) : Prop := w.cell? ⟨5, 15, none⟩ = some (.int .u8 4)
theorem Tz.below {w w' : World} (h : Tz w) (hb : Below w.heap.size w w') : Tz w' := by
  unfold Tz at *
  rw [hb.cell (block_lt_of_cell h)]; exact h
theorem Tz.alloc {w : World} (h : Tz w) (o : Obj) : Tz (w.alloc o) := h.below ((Below.refl _ _).alloc (Nat.le_refl _) o)

set_option maxRecDepth 100000 in
theorem isPow_16 (w : World) : Calls Tryd.prog 93 #[.int .i64 16] w fun e w' => e = .returned (.bool true) ∧ w = w' := by
  have h : bits .and .i64 16 15 = 0 := by decide
  go_enter Tryd.func93, Tryd.ntmps93
  go_wp2
  apply bodyPost_ret (results_tmp rfl _ _ _)
  · rfl
  · exact ⟨rfl, rfl⟩

set_option maxRecDepth 100000 in
theorem tz64_16 (w : World) (h : Tz w) : Calls Tryd.prog 109 #[.int .u64 16] w fun e w' => e = .returned (.int .i64 4) ∧ w = w' := by
  have h0 : IntKind.u64.wrap (-16) = 18446744073709551600 := by decide
  have h1 : bits .and .u64 16 18446744073709551600 = 16 := by decide
  have h2 : IntKind.u64.wrap 4573923408821661840 = 4573923408821661840 := by decide
  have hc : w.cell? ⟨5, 15, none⟩ = some (.int .u8 4) := h
  clear h
  go_enter Tryd.func109, Tryd.ntmps109
  go_wp2
  go_ret
  exact ⟨rfl, rfl⟩

set_option maxRecDepth 100000 in
theorem tz_16 (w : World) (h : Tz w) : Calls Tryd.prog 94 #[.int .u64 16] w fun e w' => e = .returned (.int .i64 4) ∧ w = w' := by
  have H := Lib.hid h
  clear h
  go_enter Tryd.func94, Tryd.ntmps94
  go_wp2_with (go_at_call 109; refine (tz64_16 _ H.out).mono ?_; rintro e w' ⟨rfl, rfl⟩)
  go_ret
  exact ⟨rfl, rfl⟩

theorem and15_u64 (m : Nat) (h : m < 4294967296) : bits .and .u64 (m : Int) 15 = ((m % 16 : Nat) : Int) := by
  have h1 : (BitVec.ofInt 64 (m : Int)).toNat = m := by
    rw [BitVec.ofInt_natCast, BitVec.toNat_ofNat]; exact Nat.mod_eq_of_lt (by omega)
  have h2 : (BitVec.ofInt 64 (15 : Int)).toNat = 15 := by decide
  have h3 : m &&& 15 = m % 16 := Nat.and_two_pow_sub_one_eq_mod m 4
  show IntKind.u64.wrap ((BitVec.ofInt 64 (m : Int) &&& BitVec.ofInt 64 (15 : Int)).toNat : Int) = _
  rw [BitVec.toNat_and, h1, h2, h3]
  simp [IntKind.wrap, IntKind.signed, IntKind.bits]
  omega
theorem idx36 : ∀ d : Nat, d < 16 → ∀ W : World, (Instr.index 9 (.string ⟨#[48, 49, 50, 51, 52, 53, 54, 55, 56, 57, 97, 98, 99, 100, 101, 102, 103, 104, 105, 106, 107, 108, 109, 110, 111, 112, 113, 114, 115, 116, 117, 118, 119, 120, 121, 122]⟩) (.int .u64 (d : Int))).run Tryd.prog W = .ok (.int .u8 ((hx d).toNat : Int)) W := by
  intro d hd W
  have h : d = 0 ∨ d = 1 ∨ d = 2 ∨ d = 3 ∨ d = 4 ∨ d = 5 ∨ d = 6 ∨ d = 7 ∨ d = 8 ∨ d = 9 ∨ d = 10 ∨ d = 11 ∨ d = 12 ∨ d = 13 ∨ d = 14 ∨ d = 15 := by omega
  rcases h with rfl | rfl | rfl | rfl | rfl | rfl | rfl | rfl | rfl | rfl | rfl | rfl | rfl | rfl | rfl | rfl <;> (go_simp; rfl)

/-- The library's row of 65 bytes when k of them are not yet written. -/
def rowB (k : Nat) (l : List UInt8) : List Value := List.replicate k (Value.int .u8 0) ++ byV l
theorem rowB_len (k : Nat) (l : List UInt8) : (rowB k l).length = k + l.length := by simp [rowB, byV_len]
theorem rowB_set (k : Nat) (b : UInt8) (l : List UInt8) : (rowB (k + 1) l).set k (.int .u8 (b.toNat : Int)) = rowB k (b :: l) := by
  unfold rowB
  rw [List.replicate_succ', List.append_assoc, List.set_append_right _ _ (by simp)]
  simp [byV]
theorem zero_cells : Tryd.zeroCells111.toList = rowB 65 [] := by kernel_rfl
theorem rowB_start (w : World) : Row (w.alloc (.cells Tryd.zeroCells111 111)) w.heap.size 111 65 (rowB 65 []) :=
  ⟨Tryd.zeroCells111, heap_alloc_new w _, by kernel_rfl, by simp [rowB_len], by simp [maxLen], by
    rw [zero_cells]; exact List.take_of_length_le (Nat.le_refl _)⟩
theorem conv_rowB (w : World) (G k : Nat) (l : List UInt8) (hr : Row w G 111 65 (rowB k l)) (d : Nat) (hd : l.length = d) :
    (convert 68 9 (.slice (some ⟨G, k, none⟩) d d)).run Tryd.prog w = .ok (.string ⟨l.toArray⟩) w := by
  subst hd
  refine run_convert_bytes_back w 68 9 5 ⟨G, k, none⟩ l.length l Tryd.underlying68 Tryd.underlying5 Tryd.underlying9 fun j hj => ?_
  have h1 := hr.cell (k + j) (by rw [rowB_len]; omega)
  rw [show (⟨G, k, none⟩ : Addr).add j = ⟨G, k + j, none⟩ by unfold Addr.add; split <;> simp_all, h1]
  simp [rowB, byV, List.getElem_append_right]
theorem slice_rowB (G k d : Nat) (h : k + d = 65) (h1 : 1 ≤ d) : ∀ W, (Instr.sliceAt 111 (.pointer (some ⟨G, 0, none⟩)) (some (.int .i64 (k : Int))) none none).run Tryd.prog W = .ok (.slice (some ⟨G, k, none⟩) d d) W := fun W => by
  have hal : Tryd.prog.arrayLen 111 = 65 := by simp [Program.arrayLen, Tryd.underlying111]
  rw [run_sliceAt_array_l W 111 ⟨G, 0, none⟩ (by simp [Program.arrayLen, Program.elem, Tryd.underlying111]) .i64 (k : Int) (by omega) (by rw [hal]; omega)]
  go_simp
  omega

theorem rep_48 (r : Nat) : Lib.repeatL [48] r = List.replicate r 48 := by
  have := Lib.repeatL_replicate 48 1 r
  rw [Nat.mul_one] at this; exact this

/-- The text of a number in base 16, without zeros ahead. -/
def HexT (n : Nat) (e : List UInt8) : Prop := ∃ d, 1 ≤ d ∧ d ≤ 8 ∧ n < 16 ^ d ∧ e = hexL d n

set_option maxHeartbeats 8000000 in
set_option maxRecDepth 100000 in
theorem formatBits_16 (n : Nat) (hn : n < 4294967296) (w : World) (hT : Tz w) :
    Calls Tryd.prog 76 #[.slice none 0 0, .int .u64 n, .int .i64 16, .bool false, .bool false] w fun e w' => ∃ l, HexT n l ∧ e = .returned (.tuple #[.slice none 0 0, .string ⟨l.toArray⟩]) ∧ Below w.heap.size w w' := by
  have R0 := Lib.hid (rowB_start w)
  have B0 := Lib.hid ((Below.refl w.heap.size w).alloc (Nat.le_refl _) (.cells Tryd.zeroCells111 111))
  have HT := Lib.hid (hT.alloc (.cells Tryd.zeroCells111 111))
  have hN : n < 16 ^ 8 := hn
  have HN := Lib.hid hN
  clear hT hN
  go_enter Tryd.func76, Tryd.ntmps76
  go_wp2_with (first
    | (go_at_call 93; refine (isPow_16 _).mono ?_; rintro e w' ⟨rfl, rfl⟩)
    | (go_at_call 94; refine (tz_16 _ HT.out).mono ?_; rintro e w' ⟨rfl, rfl⟩))
  go_loopw [1, 13] (fun u i wr => ∃ (j q m : Nat), j ≤ 7 ∧ q + 1 + j = 65 ∧ n / 16 ^ j = m ∧ u = .int .u64 m ∧ i = .int .i64 ((q : Int) + 1) ∧ Row wr w.heap.size 111 65 (rowB (q + 1) (hexL j n)) ∧ Below w.heap.size w wr) (fun u _ _ => (intOf u).toNat)
  case atStart => exact ⟨0, 64, n, by omega, by omega, by simp, rfl, rfl, R0.out, B0.out⟩
  case round =>
    obtain ⟨j, q, m, hj, hq, hm, rfl, rfl, hr, hb⟩ := hrel
    have hml : m < 4294967296 := by rw [← hm]; exact Nat.lt_of_le_of_lt (Nat.div_le_self _ _) hn
    obtain ⟨d, hd⟩ : ∃ d, m % 16 = d := ⟨_, rfl⟩
    have hdl : d < 16 := by omega
    have hand := and15_u64 m hml
    rw [hd] at hand
    obtain ⟨b, hbx⟩ : ∃ b, hx d = b := ⟨_, rfl⟩
    have hcons : hexL (j + 1) n = b :: hexL j n := by rw [hexL_cons, hm, hd, hbx]
    have hold := hr.cell q (by rw [rowB_len]; omega)
    have hfree := hr.free q
    have hset := hr.set q (.int .u8 (b.toNat : Int))
    rw [rowB_set, ← hcons] at hset
    have HR := Lib.hid hr; have HS := Lib.hid hset; have HB := Lib.hid hb; have HM := Lib.hid hm
    have hql : q < 65 := by omega
    have hstep : n / 16 ^ (j + 1) = m / 16 := by rw [← hm, pow_div]
    have HST := Lib.hid hstep
    clear hr hset hb hm R0 B0 hcons hstep
    by_cases hge : 16 ≤ m
    · have hj6 : j + 1 ≤ 7 := by
        rcases Nat.lt_or_ge j 7 with h | h
        · omega
        · have : j = 7 := by omega
          subst this
          have h1 := HM.out
          have h2 := HN.out
          have : n / 16 ^ 7 < 16 := Nat.div_lt_of_lt_mul (by rw [← Nat.pow_succ]; exact h2)
          omega
      have hidx := idx36 d hdl
      rw [hbx] at hidx
      obtain ⟨r, hr⟩ : ∃ r, m / 16 = r := ⟨_, rfl⟩
      have hdiv : (m : Int) / 16 = (r : Int) := by rw [← hr]; rfl
      have hrm : r < m := by omega
      have HRR := Lib.hid hr
      clear hbx hd hr
      go_wp2
      go_roundw
      case rel => exact ⟨j + 1, q - 1, r, hj6, by omega, by rw [HST.out, HRR.out], by first | rfl | go_num, by go_num, by rw [show q - 1 + 1 = q by omega]; exact HS.out, HB.out.setCell (Nat.le_refl _) _⟩
      case measure => simp [intOf]; omega
    · have hmd : m = d := by omega
      have hidx := idx36 d hdl
      rw [hbx] at hidx
      rw [hmd]
      have hlen : (hexL (j + 1) n).length = j + 1 := hexL_len _ _
      have hcv := fun W h => conv_rowB W w.heap.size q (hexL (j + 1) n) h (j + 1) hlen
      have hcv2 := hcv _ HS.out
      have hsl := slice_rowB w.heap.size q (j + 1) (by omega) (by omega)
      have hfin : HexT n (hexL (j + 1) n) := ⟨j + 1, by omega, by omega, by
        have h1 : n / 16 ^ j < 16 := by rw [HM.out]; omega
        rw [Nat.pow_succ]
        have h0 : 0 < 16 ^ j := Nat.pow_pos (by decide)
        have h2 := Nat.lt_mul_of_div_lt h1 h0
        rw [Nat.mul_comm]; exact h2, rfl⟩
      have HF := Lib.hid hfin
      generalize hexL (j + 1) n = l at *
      clear hbx hd hcv hlen hfin
      go_wp2
      go_ret2
      exact ⟨l, HF.out, rfl, HB.out.setCell (Nat.le_refl _) _⟩

set_option maxHeartbeats 1000000 in
set_option maxRecDepth 100000 in
theorem formatIntI_16 (n : Nat) (hn : n < 4294967296) (w : World) (hT : Tz w) :
    Calls Tryd.prog 57 #[.int .i64 n, .int .i64 16] w fun e w' => ∃ l, HexT n l ∧ e = .returned (.string ⟨l.toArray⟩) ∧ Below w.heap.size w w' := by
  have HT := Lib.hid hT
  have hw : IntKind.u64.wrap (n : Int) = n := by rw [IntKind.wrap_u64]; omega
  clear hT
  go_enter Tryd.func57, Tryd.ntmps57
  go_wp2_with (go_at_call 76; refine (formatBits_16 n hn _ HT.out).mono ?_; rintro e w' ⟨l, hl, rfl, hb⟩; have HL := Lib.hid hl; have HB := Lib.hid hb; clear hl hb)
  go_ret
  exact ⟨l, HL.out, rfl, HB.out⟩

set_option maxHeartbeats 1000000 in
set_option maxRecDepth 100000 in
theorem formatInt_16 (n : Nat) (hn : n < 4294967296) (w : World) (hT : Tz w) :
    Calls Tryd.prog 36 #[.int .i64 n, .int .i64 16] w fun e w' => ∃ l, HexT n l ∧ e = .returned (.string ⟨l.toArray⟩) ∧ Below w.heap.size w w' := by
  have HT := Lib.hid hT
  clear hT
  go_enter Tryd.func36, Tryd.ntmps36
  go_wp2_with (go_at_call 57; refine (formatIntI_16 n hn _ HT.out).mono ?_; rintro e w' ⟨l, hl, rfl, hb⟩; have HL := Lib.hid hl; have HB := Lib.hid hb; clear hl hb)
  go_ret
  exact ⟨l, HL.out, rfl, HB.out⟩

set_option maxHeartbeats 2000000 in
set_option maxRecDepth 100000 in
/-- The program's eight digits. -/
theorem hexOf_any (x : Nat) (w : World) (hx0 : x < 4294967296) (hT : Tz w) :
    Calls Tryd.prog 48 #[.float .f32 x] w fun e w' => e = .returned (.string ⟨(hexL 8 (fb x)).toArray⟩) ∧ Below w.heap.size w w' := by
  have HT := Lib.hid hT
  have hn := fb_lt x hx0
  have HX := Lib.hid hx0
  obtain ⟨n, hfb⟩ : ∃ n, fb x = n := ⟨_, rfl⟩
  rw [hfb] at hn ⊢
  have HF := Lib.hid hfb
  clear hx0 hfb hT
  go_enter Tryd.func48, Tryd.ntmps48
  go_wp2_with (go_at_call 64; refine (implBits_any x _ HX.out).mono ?_; rintro e w1 ⟨rfl, rfl⟩; rw [HF.out])
  go_at_call 36
  refine (formatInt_16 n hn _ HT.out).mono ?_
  rintro e w1 ⟨l, ⟨d, hd1, hd8, hlt, rfl⟩, rfl, hb⟩
  have HB := Lib.hid hb; have HLT := Lib.hid hlt; clear hb hlt
  have hsz : (⟨(hexL d n).toArray⟩ : ByteArray).size = d := by
    simp [ByteArray.size, hexL_len]
  obtain ⟨r, hr⟩ : ∃ r, 8 - d = r := ⟨_, rfl⟩
  have hsub : (8 : Int) - (d : Int) = (r : Int) := by omega
  obtain ⟨s, hs⟩ : ∃ s : ByteArray, (⟨(hexL d n).toArray⟩ : ByteArray) = s := ⟨_, rfl⟩
  rw [hs] at hsz ⊢
  go_wp2_with fail
  go_at_call 65
  refine (Tryd.strings_Repeat ⟨#[48]⟩ r _ (by omega) (by simp [ByteArray.size]; omega)).mono ?_
  rintro e w2 ⟨rfl, hb⟩
  have HB2 := Lib.hid hb; clear hb
  have hzz : Lib.repeatL (⟨#[48]⟩ : ByteArray).data.toList r = List.replicate r 48 := rep_48 r
  have hzl : (Lib.repeatL (⟨#[48]⟩ : ByteArray).data.toList r).length = r := by rw [hzz]; simp
  obtain ⟨z, hz⟩ : ∃ z, Lib.repeatL (⟨#[48]⟩ : ByteArray).data.toList r = z := ⟨_, rfl⟩
  rw [hz] at hzz hzl ⊢
  have HZ := Lib.hid hzz; have HR := Lib.hid hr; have HSS := Lib.hid hs
  clear hzz hr hz hs
  go_wp2
  go_ret
  refine ⟨?_, HB.out.trans (HB2.out.mono HB.out.size)⟩
  rw [← HSS.out, HZ.out]
  have hp := hexL_pad d (8 - d) n HLT.out
  rw [show 8 - d + d = 8 by omega, HR.out] at hp
  rw [hp]
  have he : (⟨(List.replicate r 48).toArray⟩ : ByteArray) ++ ⟨(hexL d n).toArray⟩ = ⟨(List.replicate r 48 ++ hexL d n).toArray⟩ := by
    apply ByteArray.ext
    simp
  exact congrArg (fun b => Ending.returned (.string b)) he

end Go.Proofs.YtjlbjlcficbdlaaDoor
