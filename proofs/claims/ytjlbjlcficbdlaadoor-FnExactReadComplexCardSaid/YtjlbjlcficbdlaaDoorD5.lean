/-
  Walks: the law ListText: the text of a list of integers: the reference's and the program's. Conditions (the program's): the table of powers of ten lies as its initialiser lays it.
-/
import Derived.Test.YtjlbjlcficbdlaaDoorD4
import Derived.Test.YtjlbjlcficbdlaaDoorDJ
import Derived.Test.YtjlbjlcficbdlaaDoorShJ
import Derived.Lib.SmallJoins
set_option linter.unusedVariables false
set_option linter.unusedSimpArgs false
namespace Go.Proofs.YtjlbjlcficbdlaaDoor
open Go Go.RowKit

/-- Few numbers, none too great. -/
def avB (xs : List Int) : Bool := xs.all valueB && decide (xs.length ≤ 64)
def avK (xs : List Int) (k : Nat) : Prop := (xs.take k).all valueB = true
theorem avK_succ {xs : List Int} {k : Nat} (h : avK xs k) (hk : k < xs.length) (hv : valueB xs[k] = true) : avK xs (k + 1) := by
  unfold avK at *
  rw [List.take_succ_eq_append_getElem hk, List.all_append, h]; simp [hv]
theorem avB_no {xs : List Int} {k : Nat} (hk : k < xs.length) (hv : valueB xs[k] = false) : avB xs = false := by
  have : xs.all valueB = false := by
    rw [List.all_eq_false]
    exact ⟨xs[k], List.getElem_mem _, by rw [hv]; decide⟩
  unfold avB; rw [this]; rfl
theorem avB_end {xs : List Int} (h : avK xs xs.length) : avB xs = decide ((xs.length : Int) ≤ 64) := by
  unfold avK at h
  rw [List.take_length] at h
  unfold avB; rw [h, Bool.true_and]
  congr 1
  simp only [eq_iff_iff]; omega
theorem avB_of {xs : List Int} (h : avB xs = true) : xs.length ≤ 64 ∧ ∀ x ∈ xs, -1000000000000000 ≤ x ∧ x ≤ 1000000000000000 := by
  unfold avB at h
  simp only [Bool.and_eq_true, decide_eq_true_eq, List.all_eq_true] at h
  refine ⟨h.2, fun x hx => ?_⟩
  have := h.1 x hx
  unfold valueB inB at this
  simpa using this

def none4 : List UInt8 := [110, 111, 110, 101]
/-- The text of the first k. -/
def pre (xs : List Int) (k : Nat) : List UInt8 := Lib.join ((xs.take k).map Lib.itoa) [44]
def txtL (xs : List Int) : List UInt8 := if xs = [] then none4 else Lib.join (xs.map Lib.itoa) [44]
theorem pre_one {xs : List Int} (h : 0 < xs.length) : pre xs 1 = Lib.itoa xs[0] := by
  obtain ⟨x, r, rfl⟩ : ∃ x r, xs = x :: r := by cases xs with
    | nil => simp at h
    | cons x r => exact ⟨x, r, rfl⟩
  simp [pre, Lib.join_one]
theorem pre_succ {xs : List Int} {k : Nat} (h1 : 1 ≤ k) (h : k < xs.length) : pre xs (k + 1) = pre xs k ++ [44] ++ Lib.itoa xs[k] := by
  obtain ⟨x, r, rfl⟩ : ∃ x r, xs = x :: r := by cases xs with
    | nil => simp at h
    | cons x r => exact ⟨x, r, rfl⟩
  obtain ⟨j, rfl⟩ : ∃ j, k = j + 1 := ⟨k - 1, by omega⟩
  have hj : j < r.length := by simpa using h
  unfold pre
  rw [List.take_succ_cons, List.take_succ_cons, List.map_cons, List.map_cons, Lib.join_cons, Lib.join_cons, List.map_take, List.map_take,
    Lib.joinTail_take_succ [44] (r.map Lib.itoa) j (Lib.itoa r[j]) (by rw [List.getElem?_map, List.getElem?_eq_getElem hj]; rfl)]
  simp [List.append_assoc]
theorem pre_all {xs : List Int} (h : 0 < xs.length) : pre xs xs.length = txtL xs := by
  unfold pre txtL
  rw [List.take_length, if_neg (by intro e; rw [e] at h; simp at h)]

theorem bytes_of {t : ByteArray} {l : List UInt8} (h : t.data.toList = l) : t = ⟨l.toArray⟩ := by
  subst h
  cases t with
  | mk d => simp
theorem size_of {t : ByteArray} {l : List UInt8} (h : t.data.toList = l) : t.size = l.length := by
  rw [← h, size_len]
theorem itoa_len {x : Int} (h : -1000000000000000 ≤ x ∧ x ≤ 1000000000000000) : (Lib.itoa x).length ≤ 17 := by
  have := lenB_itoa h
  unfold lenB at this
  simp only [Bool.and_eq_true, decide_eq_true_eq] at this
  exact this.2

set_option maxHeartbeats 2000000 in
set_option maxRecDepth 100000 in
theorem l01List_any (w : World) (g n c : Nat) (xs : List Int) (hn : xs.length = n) (hm : n ≤ 1048576) (hx : Rd w g 0 xs) :
    Calls Tryd.prog 40 #[.slice (some ⟨g, 0, none⟩) n c] w fun e w' => e = .returned (.bool (avB xs)) ∧ w = w' := by
  have HN := Lib.hid hn; have HX := Lib.hid hx
  clear hn hx
  go_enter Tryd.func40, Tryd.ntmps40
  go_wp2
  go_loopw [3] (fun i wr => ∃ k : Nat, k ≤ n ∧ i = .int .i64 k ∧ avK xs k ∧ w = wr) (fun i _ => n - (intOf i).toNat)
  case atStart => exact ⟨0, Nat.zero_le _, rfl, by simp [avK], rfl⟩
  case round =>
    obtain ⟨k, hk, rfl, ha, rfl⟩ := hrel
    have HA := Lib.hid ha
    clear ha
    by_cases hlt : k < n
    · have hkx : k < xs.length := by have := HN.out; omega
      have hc := HX.out k hkx
      rw [Nat.zero_add] at hc
      by_cases hv : valueB xs[k] = true
      · have HS := Lib.hid (avK_succ HA.out hkx hv)
        have HV := Lib.hid hv
        generalize xs[k] = x at hc HV
        clear hv
        go_wp2_with (go_at_call 58; refine (l00In_any x _ _ _).mono ?_; rintro e w' ⟨rfl, rfl⟩; rw [show inB x (-1000000000000000) 1000000000000000 = valueB x from rfl]; rw [HV.out])
        go_roundw
        case rel => exact ⟨k + 1, by omega, by go_num, HS.out, by trivial⟩
        case measure => simp [intOf]; omega
      · have hv' : valueB xs[k] = false := by simpa using hv
        have HS := Lib.hid (avB_no hkx hv')
        have HV := Lib.hid hv'
        generalize xs[k] = x at hc HV
        clear hv hv'
        go_wp2_with (go_at_call 58; refine (l00In_any x _ _ _).mono ?_; rintro e w' ⟨rfl, rfl⟩; rw [show inB x (-1000000000000000) 1000000000000000 = valueB x from rfl]; rw [HV.out])
        go_ret
        exact ⟨ret_bool HS.out.symm, rfl⟩
    · obtain rfl : k = n := by omega
      have HS := Lib.hid (avB_end (by rw [HN.out]; exact HA.out))
      rw [HN.out] at HS
      go_wp2
      go_ret
      exact ⟨ret_bool HS.out.symm, rfl⟩

set_option maxHeartbeats 2000000 in
set_option maxRecDepth 100000 in
theorem areValues_any (w : World) (g n c : Nat) (xs : List Int) (hn : xs.length = n) (hm : n ≤ 1048576) (hx : Rd w g 0 xs) :
    Calls Tryd.prog 42 #[.slice (some ⟨g, 0, none⟩) n c] w fun e w' => e = .returned (.bool (avB xs)) ∧ w = w' := by
  have HN := Lib.hid hn; have HX := Lib.hid hx
  clear hn hx
  go_enter Tryd.func42, Tryd.ntmps42
  go_wp2
  go_loopw [7] (fun i wr => ∃ k : Nat, k ≤ n ∧ i = .int .i64 k ∧ avK xs k ∧ w = wr) (fun i _ => n - (intOf i).toNat)
  case atStart => exact ⟨0, Nat.zero_le _, rfl, by simp [avK], rfl⟩
  case round =>
    obtain ⟨k, hk, rfl, ha, rfl⟩ := hrel
    have HA := Lib.hid ha
    clear ha
    by_cases hlt : k < n
    · have hkx : k < xs.length := by have := HN.out; omega
      have hc := HX.out k hkx
      rw [Nat.zero_add] at hc
      by_cases hv : valueB xs[k] = true
      · have HS := Lib.hid (avK_succ HA.out hkx hv)
        have HV := Lib.hid hv
        generalize xs[k] = x at hc HV
        clear hv
        go_wp2_with (go_at_call 39; refine (isValue_any x _).mono ?_; rintro e w' ⟨rfl, rfl⟩; rw [HV.out])
        go_roundw
        case rel => exact ⟨k + 1, by omega, by go_num, HS.out, by trivial⟩
        case measure => simp [intOf]; omega
      · have hv' : valueB xs[k] = false := by simpa using hv
        have HS := Lib.hid (avB_no hkx hv')
        have HV := Lib.hid hv'
        generalize xs[k] = x at hc HV
        clear hv hv'
        go_wp2_with (go_at_call 39; refine (isValue_any x _).mono ?_; rintro e w' ⟨rfl, rfl⟩; rw [HV.out])
        go_ret
        exact ⟨ret_bool HS.out.symm, rfl⟩
    · obtain rfl : k = n := by omega
      have HS := Lib.hid (avB_end (by rw [HN.out]; exact HA.out))
      rw [HN.out] at HS
      go_wp2
      go_ret
      exact ⟨ret_bool HS.out.symm, rfl⟩

set_option maxHeartbeats 4000000 in
set_option maxRecDepth 100000 in
theorem l01Text_any (w : World) (g n c : Nat) (xs : List Int) (hn : xs.length = n) (hm : n ≤ 64) (hx : Rd w g 0 xs) (hg : g < w.heap.size) (hbd : ∀ x ∈ xs, -1000000000000000 ≤ x ∧ x ≤ 1000000000000000) :
    Calls Tryd.prog 41 #[.slice (some ⟨g, 0, none⟩) n c] w fun e w' => e = .returned (.string ⟨(txtL xs).toArray⟩) ∧ Below w.heap.size w w' := by
  have HN := Lib.hid hn; have HX := Lib.hid hx; have HBD := Lib.hid hbd
  clear hn hx hbd
  by_cases h0 : n = 0
  · subst h0
    obtain rfl : xs = [] := List.length_eq_zero_iff.1 HN.out
    go_enter Tryd.func41, Tryd.ntmps41
    go_wp2
    go_ret
    exact ⟨rfl, .refl _ _⟩
  · have hp : 0 < xs.length := by rw [HN.out]; omega
    have hc := HX.out 0 hp
    rw [Nat.zero_add] at hc
    have hb0 := HBD.out _ (List.getElem_mem hp)
    have HP1 := Lib.hid (pre_one hp)
    have mz : ((n : Int) == 0) = false := by simp; omega
    have mp : (0 : Int) < (n : Int) := by omega
    have mpn : 0 < n := by omega
    have HFin : Hid (∀ u : ByteArray, u.data.toList = pre xs n → u = ⟨(txtL xs).toArray⟩) := Lib.hid (fun u hu => bytes_of (by rw [hu, ← HN.out]; exact pre_all hp))
    have HL1 : Hid ((pre xs 1).length ≤ 18) := Lib.hid (by rw [HP1.out]; have := itoa_len hb0; omega)
    generalize xs[0] = x0 at hc hb0 HP1
    clear hp
    go_enter Tryd.func41, Tryd.ntmps41
    go_wp2_with (go_at_call 35; refine (l01Dec_any x0 (by omega) (by omega) _).mono ?_; rintro e w1 ⟨rfl, hb⟩; have HB := Lib.hid hb; clear hb)
    obtain ⟨u1, hu1⟩ : ∃ u : ByteArray, (⟨(Lib.itoa x0).toArray⟩ : ByteArray) = u := ⟨_, rfl⟩
    rw [hu1]
    have HU1 : Hid (u1.data.toList = pre xs 1) := Lib.hid (by rw [← hu1, HP1.out])
    clear hu1
    go_loopw [3, 4] (fun o i wr => ∃ (k : Nat) (u : ByteArray), 1 ≤ k ∧ k ≤ n ∧ i = .int .i64 k ∧ o = .string u ∧ u.data.toList = pre xs k ∧ (pre xs k).length ≤ 18 * k ∧ Below w.heap.size w wr) (fun _ i _ => n - (intOf i).toNat)
    case atStart => exact ⟨1, u1, by omega, by omega, rfl, rfl, HU1.out, HL1.out, HB.out⟩
    case round =>
      obtain ⟨k, u, k1, hk, rfl, rfl, hu, hl, hb⟩ := hrel
      have hus : u.size ≤ 18 * k := by rw [size_of hu]; exact hl
      have HU := Lib.hid hu; have HL := Lib.hid hl; have HBk := Lib.hid hb
      clear hu hl hb
      by_cases hlt : k < n
      · have hkx : k < xs.length := by rw [HN.out]; exact hlt
        have hc2 := (HX.out.below HBk.out hg) k hkx
        rw [Nat.zero_add] at hc2
        have hbk := HBD.out _ (List.getElem_mem hkx)
        have HS := Lib.hid (pre_succ k1 hkx)
        have hil := itoa_len hbk
        generalize xs[k] = x at hc2 hbk HS hil
        clear hkx
        obtain ⟨t, ht⟩ : ∃ t : ByteArray, (⟨(Lib.itoa x).toArray⟩ : ByteArray) = t := ⟨_, rfl⟩
        have htl : t.data.toList = Lib.itoa x := by rw [← ht]
        have hts : t.size ≤ 17 := by rw [size_of htl]; exact hil
        have HT := Lib.hid ht; have HTL := Lib.hid htl
        clear ht htl
        obtain ⟨ct, hct⟩ : ∃ ct : ByteArray, (⟨#[44]⟩ : ByteArray) ++ t = ct := ⟨_, rfl⟩
        have hcl : ct.data.toList = [44] ++ Lib.itoa x := by rw [← hct, Joins.data_append, HTL.out]
        have hcs : ct.size ≤ 18 := by rw [size_of hcl]; simp; omega
        have ha1 : (Op.stringOp .add (⟨#[44]⟩ : ByteArray) t).run Tryd.prog = fun w => .ok (.string ct) w := by
          funext w; rw [run_string_add_sum w _ _ (by show 1 + t.size ≤ 9223372036854775807; omega), hct]
        have ha2 : (Op.stringOp .add u ct).run Tryd.prog = fun w => .ok (.string (u ++ ct)) w := by
          funext w; rw [run_string_add_sum w _ _ (by omega)]
        have HCL := Lib.hid hcl; have HA1 := Lib.hid ha1; have HA2 := Lib.hid ha2
        have HU2 : Hid ((u ++ ct).data.toList = pre xs (k + 1)) := Lib.hid (by rw [Joins.data_append, HU.out, HCL.out, HS.out]; simp [List.append_assoc])
        have HL2 : Hid ((pre xs (k + 1)).length ≤ 18 * (k + 1)) := Lib.hid (by rw [HS.out]; simp only [List.length_append, List.length_cons, List.length_nil]; have := HL.out; omega)
        clear hcl ha1 ha2 hct
        have a1 := fun w => congrFun HA1.out w
        have a2 := fun w => congrFun HA2.out w
        go_wp2_with (go_at_call 35; refine (l01Dec_any x (by omega) (by omega) _).mono ?_; rintro e w2 ⟨rfl, hb⟩; rw [HT.out]; have HB2 := Lib.hid hb; clear hb)
        go_roundw
        case rel => exact ⟨k + 1, u ++ ct, by omega, by omega, by go_num, rfl, HU2.out, HL2.out, HBk.out.trans (HB2.out.mono HBk.out.size)⟩
        case measure => simp [intOf]; omega
      · obtain rfl : k = n := by omega
        have HE := Lib.hid (HFin.out u HU.out)
        go_wp2
        go_ret
        exact ⟨by rw [← HE.out]; rfl, HBk.out⟩

end Go.Proofs.YtjlbjlcficbdlaaDoor
