/-
  Walks: the law ReadDecimal: the number with a decimal text: the reference's and the program's. Conditions (the program's): the table of powers of ten and the two errors of the library lie as their initialisers lay them.
-/
import Derived.Test.YtjlbjlcficbdlaaDoorWit
import Derived.Test.YtjlbjlcficbdlaaDoorShP
import Derived.Lib.SmallJoins
import Derived.Lib.ParseIntBTie
set_option linter.unusedVariables false
set_option linter.unusedSimpArgs false
namespace Go.Proofs.YtjlbjlcficbdlaaDoor
open Go Go.RowKit

/-- n from low to high. -/
def inB (n lo hi : Int) : Bool := decide (lo ≤ n) && decide (n ≤ hi)

theorem l00In_any (n lo hi : Int) (w : World) : Calls Tryd.prog 58 #[.int .i64 n, .int .i64 lo, .int .i64 hi] w fun e w' => e = .returned (.bool (inB n lo hi)) ∧ w = w' := by
  by_cases h1 : lo ≤ n
  · by_cases h2 : n ≤ hi
    · go_enter Tryd.func58, Tryd.ntmps58
      go_wp2
      go_ret
      exact ⟨ret_bool (by simp [inB]; omega), rfl⟩
    · go_enter Tryd.func58, Tryd.ntmps58
      go_wp2
      go_ret
      exact ⟨ret_bool (by simp [inB]; omega), rfl⟩
  · go_enter Tryd.func58, Tryd.ntmps58
    go_wp2
    go_ret
    exact ⟨ret_bool (by simp [inB]; omega), rfl⟩

theorem within_any (n lo hi : Int) (w : World) : Calls Tryd.prog 61 #[.int .i64 n, .int .i64 lo, .int .i64 hi] w fun e w' => e = .returned (.bool (inB n lo hi)) ∧ w = w' := by
  by_cases h1 : lo ≤ n
  · by_cases h2 : n ≤ hi
    · go_enter Tryd.func61, Tryd.ntmps61
      go_wp2
      go_ret
      exact ⟨ret_bool (by simp [inB]; omega), rfl⟩
    · go_enter Tryd.func61, Tryd.ntmps61
      go_wp2
      go_ret
      exact ⟨ret_bool (by simp [inB]; omega), rfl⟩
  · go_enter Tryd.func61, Tryd.ntmps61
    go_wp2
    go_ret
    exact ⟨ret_bool (by simp [inB]; omega), rfl⟩

def valueB (n : Int) : Bool := inB n (-1000000000000000) 1000000000000000
theorem isValue_any (n : Int) (w : World) : Calls Tryd.prog 39 #[.int .i64 n] w fun e w' => e = .returned (.bool (valueB n)) ∧ w = w' := by
  go_enter Tryd.func39, Tryd.ntmps39
  go_wp2_with (go_at_call 61; refine (within_any n _ _ _).mono ?_; rintro e w' ⟨rfl, rfl⟩)
  go_ret
  exact ⟨rfl, rfl⟩

/-- A number and whether there is one. -/
def rdV : Option Int → Value
  | some v => .tuple #[.int .i64 v, .bool true]
  | none => .tuple #[.int .i64 0, .bool false]

def valK (s : ByteArray) (k : Nat) : Nat := valD (s.data.toList.take k)
theorem valK_zero (s : ByteArray) : valK s 0 = 0 := by unfold valK; rw [List.take_zero]; rfl
theorem valK_succ (s : ByteArray) (k : Nat) (h : k < s.size) : valK s (k + 1) = vl (valK s k) s[k] := by
  unfold valK
  rw [valD_take _ _ (by simpa using h)]; rfl
theorem valK_lt (s : ByteArray) (k : Nat) (h : k ≤ 17) : valK s k < 100000000000000000 := by
  unfold valK
  have h1 := valD_lt (s.data.toList.take k)
  have h2 : (s.data.toList.take k).length ≤ 17 := by rw [List.length_take]; omega
  have h3 : 10 ^ (s.data.toList.take k).length ≤ 10 ^ 17 := Nat.pow_le_pow_right (by decide) h2
  exact Nat.lt_of_lt_of_le h1 h3
theorem size_len (s : ByteArray) : s.data.toList.length = s.size := by simp
theorem valK_all (s : ByteArray) : valK s s.size = valD s.data.toList := by
  unfold valK; rw [List.take_of_length_le (by rw [size_len]; exact Nat.le_refl _)]
theorem head_of (s : ByteArray) (h : 0 < s.size) : s.data.toList.head? = some s[0] := by
  rw [List.head?_eq_getElem?, List.getElem?_eq_getElem (by rw [size_len]; exact h)]; rfl
theorem same_text (t s : ByteArray) : (t.toList == s.toList) = decide (t.data.toList = s.data.toList) := by
  rw [ByteArray.toList_eq, ByteArray.toList_eq]
  by_cases h : t.data.toList = s.data.toList
  · rw [h, decide_eq_true rfl]; simp
  · rw [decide_eq_false h]; simpa using h

set_option maxHeartbeats 2000000 in
set_option maxRecDepth 100000 in
theorem l01Value_any (s : ByteArray) (w : World) (hs : s.size ≤ 1048576) :
    Calls Tryd.prog 37 #[.string s] w fun e w' => e = .returned (rdV (spv s.data.toList)) ∧ Below w.heap.size w w' := by
  by_cases hlen : 1 ≤ s.size ∧ s.size ≤ 17
  · obtain ⟨l1, l17⟩ := hlen
    have hp0 : 0 < s.size := l1
    have hlb : lenB s.data.toList = true := by unfold lenB; rw [size_len]; simp; omega
    have HLB := Lib.hid hlb
    clear hlb
    go_enter Tryd.func37, Tryd.ntmps37
    go_wp2
    go_loopw [4, 5] (fun n i wr => ∃ k : Nat, k ≤ s.size ∧ i = .int .i64 k ∧ n = .int .i64 (valK s k) ∧ w = wr) (fun _ i _ => s.size - (intOf i).toNat)
    case atStart => exact ⟨0, Nat.zero_le _, rfl, by rw [valK_zero]; rfl, rfl⟩
    case round =>
      obtain ⟨k, hk, rfl, rfl, rfl⟩ := hrel
      have hv := valK_lt s k (by omega)
      by_cases hlt : k < s.size
      · have hs1 := valK_succ s k hlt
        have H1 := Lib.hid hs1; clear hs1
        obtain ⟨c, hc⟩ : ∃ c : Nat, s[k].toNat = c := ⟨_, rfl⟩
        have hc255 : c < 256 := by rw [← hc]; exact UInt8.toNat_lt _
        have HC := Lib.hid hc
        generalize valK s k = n at *
        by_cases h1 : (c : Int) < 48
        · have hd : digB s[k] = false := by unfold digB; rw [hc]; simp; omega
          have H3 : Hid (valK s (k + 1) = n) := Lib.hid (by rw [H1.out]; unfold vl; rw [hd]; rfl)
          clear hd
          go_wp2
          go_round
          case rel => exact ⟨k + 1, by omega, by go_num, by rw [H3.out], by trivial⟩
          case measure => simp [intOf]; omega
        · by_cases h2 : (57 : Int) < (c : Int)
          · have hd : digB s[k] = false := by unfold digB; rw [hc]; simp; omega
            have H3 : Hid (valK s (k + 1) = n) := Lib.hid (by rw [H1.out]; unfold vl; rw [hd]; rfl)
            clear hd
            go_wp2
            go_round
            case rel => exact ⟨k + 1, by omega, by go_num, by rw [H3.out], by trivial⟩
            case measure => simp [intOf]; omega
          · have hd : digB s[k] = true := by unfold digB; rw [hc]; simp; omega
            obtain ⟨d, hdc⟩ : ∃ d, c = 48 + d := ⟨c - 48, by omega⟩
            subst hdc
            have H3 : Hid (valK s (k + 1) = 10 * n + d) := Lib.hid (by rw [H1.out]; unfold vl; rw [hd, if_pos rfl, HC.out]; omega)
            have w10 : IntKind.i64.wrap (10 * (n : Int)) = 10 * (n : Int) := IntWalk.i64_in _ (by omega)
            have wsum : IntKind.i64.wrap (10 * (n : Int) + (d : Int)) = 10 * (n : Int) + (d : Int) := IntWalk.i64_in _ (by omega)
            clear hd
            go_wp2
            go_round
            case rel => exact ⟨k + 1, by omega, by go_num, by rw [H3.out]; congr 1; omega, by trivial⟩
            case measure => simp [intOf]; omega
      · obtain rfl : k = s.size := by omega
        have hn := valK_all s
        have hh := head_of s hp0
        obtain ⟨n, hnn⟩ : ∃ n, valK s s.size = n := ⟨_, rfl⟩
        rw [hnn] at hn hv ⊢
        clear hnn
        obtain ⟨c, hc⟩ : ∃ c : Nat, s[0].toNat = c := ⟨_, rfl⟩
        have hsv : ∀ v : Int, (if c = 45 then -(n : Int) else n) = v → sval s.data.toList = v := by
          intro v hv'
          unfold sval
          rw [← hn, hh, ← hv']
          congr 1
          simp only [Option.some.injEq, eq_iff_iff]
          constructor
          · intro e; rw [← hc, e]; rfl
          · intro e; exact UInt8.toNat_inj.1 (by rw [hc, e]; rfl)
        have HSV := Lib.hid hsv
        clear hsv hh hn
        by_cases h45 : c = 45
        · subst h45
          obtain ⟨v, hvv⟩ : ∃ v : Int, v = -(n : Int) := ⟨_, rfl⟩
          have hsv := HSV.out v (by rw [if_pos rfl, hvv])
          have wn : IntKind.i64.wrap (-(n : Int)) = -(n : Int) := IntWalk.i64_in _ (by omega)
          have hv0 : -100000000000000000 ≤ v ∧ v ≤ 100000000000000000 := by omega
          by_cases hin : inB v (-1000000000000000) 1000000000000000 = true
          · obtain ⟨t, ht⟩ : ∃ t : ByteArray, (⟨(Lib.itoa v).toArray⟩ : ByteArray) = t := ⟨_, rfl⟩
            have htl : t.data.toList = Lib.itoa v := by rw [← ht]
            by_cases heq : t.data.toList = s.data.toList
            · have hcmp := (same_text t s).trans (decide_eq_true heq)
              have hsp : spv s.data.toList = some v := by
                rw [spv_iff]; unfold inB at hin; simp at hin; exact ⟨hin, by rw [← htl, heq]⟩
              have HSP := Lib.hid hsp; have HV := Lib.hid hsv; have HI := Lib.hid hin; have HT := Lib.hid ht
              clear hsp hsv hin htl heq ht
              subst hvv
              go_wp2_with (first
                | (go_at_call 58; refine (l00In_any _ _ _ _).mono ?_; rintro e w' ⟨rfl, rfl⟩; rw [HI.out])
                | (go_at_call 35; refine (l01Dec_any _ (by omega) (by omega) _).mono ?_; rintro e w' ⟨rfl, hb⟩; rw [HT.out]; have HB := Lib.hid hb; clear hb))
              go_ret2
              exact ⟨by rw [HSP.out]; rfl, HB.out⟩
            · have hcmp := (same_text t s).trans (decide_eq_false heq)
              have hsp : spv s.data.toList = none := by
                unfold spv
                have : fitB s.data.toList (sval s.data.toList) = false := by
                  rw [hsv]; unfold fitB
                  rw [decide_eq_false (p := Lib.itoa v = s.data.toList) (fun e => heq (by rw [htl, e]))]; simp
                rw [this]; simp
              have HSP := Lib.hid hsp; have HV := Lib.hid hsv; have HI := Lib.hid hin; have HT := Lib.hid ht
              clear hsp hsv hin htl heq ht
              subst hvv
              go_wp2_with (first
                | (go_at_call 58; refine (l00In_any _ _ _ _).mono ?_; rintro e w' ⟨rfl, rfl⟩; rw [HI.out])
                | (go_at_call 35; refine (l01Dec_any _ (by omega) (by omega) _).mono ?_; rintro e w' ⟨rfl, hb⟩; rw [HT.out]; have HB := Lib.hid hb; clear hb))
              go_ret2
              exact ⟨by rw [HSP.out]; rfl, HB.out⟩
          · have hin' : inB v (-1000000000000000) 1000000000000000 = false := by simpa using hin
            have hsp : spv s.data.toList = none := by
              unfold spv
              have : fitB s.data.toList (sval s.data.toList) = false := by
                rw [hsv]; unfold fitB; unfold inB at hin'; rw [hin']; rfl
              rw [this]; simp
            have HSP := Lib.hid hsp; have HV := Lib.hid hsv; have HI := Lib.hid hin'
            clear hsp hsv hin hin'
            subst hvv
            go_wp2_with (go_at_call 58; refine (l00In_any _ _ _ _).mono ?_; rintro e w' ⟨rfl, rfl⟩; rw [HI.out])
            go_ret2
            exact ⟨by rw [HSP.out]; rfl, Below.refl _ _⟩

        · have hc45 : ((c : Int) == 45) = false := by simp; omega
          obtain ⟨v, hvv⟩ : ∃ v : Int, v = (n : Int) := ⟨_, rfl⟩
          have hsv := HSV.out v (by rw [if_neg h45, hvv])
          have wn : IntKind.i64.wrap (-(n : Int)) = -(n : Int) := IntWalk.i64_in _ (by omega)
          have hv0 : -100000000000000000 ≤ v ∧ v ≤ 100000000000000000 := by omega
          by_cases hin : inB v (-1000000000000000) 1000000000000000 = true
          · obtain ⟨t, ht⟩ : ∃ t : ByteArray, (⟨(Lib.itoa v).toArray⟩ : ByteArray) = t := ⟨_, rfl⟩
            have htl : t.data.toList = Lib.itoa v := by rw [← ht]
            by_cases heq : t.data.toList = s.data.toList
            · have hcmp := (same_text t s).trans (decide_eq_true heq)
              have hsp : spv s.data.toList = some v := by
                rw [spv_iff]; unfold inB at hin; simp at hin; exact ⟨hin, by rw [← htl, heq]⟩
              have HSP := Lib.hid hsp; have HV := Lib.hid hsv; have HI := Lib.hid hin; have HT := Lib.hid ht
              clear hsp hsv hin htl heq ht
              subst hvv
              go_wp2_with (first
                | (go_at_call 58; refine (l00In_any _ _ _ _).mono ?_; rintro e w' ⟨rfl, rfl⟩; rw [HI.out])
                | (go_at_call 35; refine (l01Dec_any _ (by omega) (by omega) _).mono ?_; rintro e w' ⟨rfl, hb⟩; rw [HT.out]; have HB := Lib.hid hb; clear hb))
              go_ret2
              exact ⟨by rw [HSP.out]; rfl, HB.out⟩
            · have hcmp := (same_text t s).trans (decide_eq_false heq)
              have hsp : spv s.data.toList = none := by
                unfold spv
                have : fitB s.data.toList (sval s.data.toList) = false := by
                  rw [hsv]; unfold fitB
                  rw [decide_eq_false (p := Lib.itoa v = s.data.toList) (fun e => heq (by rw [htl, e]))]; simp
                rw [this]; simp
              have HSP := Lib.hid hsp; have HV := Lib.hid hsv; have HI := Lib.hid hin; have HT := Lib.hid ht
              clear hsp hsv hin htl heq ht
              subst hvv
              go_wp2_with (first
                | (go_at_call 58; refine (l00In_any _ _ _ _).mono ?_; rintro e w' ⟨rfl, rfl⟩; rw [HI.out])
                | (go_at_call 35; refine (l01Dec_any _ (by omega) (by omega) _).mono ?_; rintro e w' ⟨rfl, hb⟩; rw [HT.out]; have HB := Lib.hid hb; clear hb))
              go_ret2
              exact ⟨by rw [HSP.out]; rfl, HB.out⟩
          · have hin' : inB v (-1000000000000000) 1000000000000000 = false := by simpa using hin
            have hsp : spv s.data.toList = none := by
              unfold spv
              have : fitB s.data.toList (sval s.data.toList) = false := by
                rw [hsv]; unfold fitB; unfold inB at hin'; rw [hin']; rfl
              rw [this]; simp
            have HSP := Lib.hid hsp; have HV := Lib.hid hsv; have HI := Lib.hid hin'
            clear hsp hsv hin hin'
            subst hvv
            go_wp2_with (go_at_call 58; refine (l00In_any _ _ _ _).mono ?_; rintro e w' ⟨rfl, rfl⟩; rw [HI.out])
            go_ret2
            exact ⟨by rw [HSP.out]; rfl, Below.refl _ _⟩

  · have hsp : spv s.data.toList = none := by
      have : lenB s.data.toList = false := by unfold lenB; rw [size_len]; simp; omega
      unfold spv; rw [this]; rfl
    have HSP := Lib.hid hsp
    clear hsp
    by_cases h1 : s.size < 1
    · go_enter Tryd.func37, Tryd.ntmps37
      go_wp2
      go_ret2
      exact ⟨by rw [HSP.out]; rfl, Below.refl _ _⟩
    · go_enter Tryd.func37, Tryd.ntmps37
      go_wp2
      go_ret2
      exact ⟨by rw [HSP.out]; rfl, Below.refl _ _⟩

theorem i51 : Tryd.prog.underlying 51 = some (.interface (Tryd.prog.methodsAt 51)) := by kernel_rfl

theorem nil_nil (w : World) : (binOp .neq 51 .nilIface .nilIface).run Tryd.prog w = .ok (.bool false) w := run_neq_nil_nil w 51 i51
theorem held_nil' (w : World) (u : TypeId) (x : Value) : (binOp .neq 51 (.iface u x) .nilIface).run Tryd.prog w = .ok (.bool true) w := run_neq_held_nil w 51 u x i51

/-- The two errors of the library lie. -/
def Errs (w : World) : Prop := (∃ t p, w.cell? ⟨2, 0, none⟩ = some (.iface t p)) ∧ ∃ t p, w.cell? ⟨3, 0, none⟩ = some (.iface t p)
theorem Errs.below {w w' : World} (h : Errs w) (hb : Below w.heap.size w w') : Errs w' := by
  obtain ⟨⟨t, p, h1⟩, t', p', h2⟩ := h
  exact ⟨⟨t, p, by rw [hb.cell (block_lt_of_cell h1)]; exact h1⟩, t', p', by rw [hb.cell (block_lt_of_cell h2)]; exact h2⟩

theorem parse_ok (s : ByteArray) (hs : s.size ≤ 1048576) (v : Int) (h : Lib.parseIntB 64 s.data.toList = .ok v) (w : World) :
    Calls Tryd.prog 38 #[.string s, .int .i64 10, .int .i64 64] w fun e w' => e = .returned (.tuple #[.int .i64 v, .nilIface]) ∧ Below w.heap.size w w' :=
  (Tryd.strconv_ParseInt_10_at64_ok s (by omega) v h w).mono fun e w' ⟨he, hw⟩ => ⟨he, by
    rcases hw with rfl | ⟨t, rfl⟩
    · exact .refl _ _
    · exact Joins.below_bytesWorld _ _ _ _ (Nat.le_refl _)⟩
theorem parse_bad (s : ByteArray) (hs : s.size ≤ 1048576) (h : ∀ v, Lib.parseIntB 64 s.data.toList ≠ .ok v) (w : World) (hE : Errs w) :
    Calls Tryd.prog 38 #[.string s, .int .i64 10, .int .i64 64] w fun e w' => ∃ z u p, e = .returned (.tuple #[.int .i64 z, .iface u p]) ∧ Below w.heap.size w w' := by
  obtain ⟨⟨t, p, h1⟩, t', p', h2⟩ := hE
  have h0 : ∀ r, Lib.parseIntB 64 s.data.toList = r → (∃ v, r = .ok v) ∨ r = Lib.parseIntB 64 [] ∨ r = .range := by
    intro r _
    cases r with
    | ok v => exact .inl ⟨v, rfl⟩
    | range => exact .inr (.inr rfl)
    | _ => exact .inr (.inl rfl)
  rcases h0 _ rfl with ⟨v, hv⟩ | hv | hv
  · exact absurd hv (h v)
  · exact (Tryd.strconv_ParseInt_10_at64_syntax s (by omega) hv _ w h1 (.inr ⟨t, p, rfl⟩)).mono fun e w' ⟨N, he, _, _, hb⟩ => ⟨_, _, _, he, hb⟩
  · exact (Tryd.strconv_ParseInt_10_at64_range s (by omega) hv _ w h2 (.inr ⟨t', p', rfl⟩)).mono fun e w' ⟨N, he, _, _, hb⟩ => ⟨_, _, _, he, hb⟩

set_option maxHeartbeats 1000000 in
set_option maxRecDepth 100000 in
theorem specReadDecimal_any (s : ByteArray) (w : World) (hs : s.size ≤ 1048576) :
    Calls Tryd.prog 12 #[.string s] w fun e w' => e = .returned (rdV (spv s.data.toList)) ∧ Below w.heap.size w w' := by
  obtain ⟨r, hr⟩ : ∃ r, spv s.data.toList = r := ⟨_, rfl⟩
  have HR := Lib.hid hr
  rw [hr]
  clear hr
  cases r with
  | none =>
    go_enter Tryd.func12, Tryd.ntmps12
    go_wp2_with (go_at_call 37; refine (l01Value_any s _ hs).mono ?_; rintro e w1 ⟨rfl, hb⟩; rw [HR.out]; unfold rdV; have HB := Lib.hid hb; clear hb)
    go_ret2
    exact ⟨rfl, HB.out⟩
  | some v =>
    go_enter Tryd.func12, Tryd.ntmps12
    go_wp2_with (go_at_call 37; refine (l01Value_any s _ hs).mono ?_; rintro e w1 ⟨rfl, hb⟩; rw [HR.out]; unfold rdV; have HB := Lib.hid hb; clear hb)
    go_ret2
    exact ⟨rfl, HB.out⟩

theorem parse_int64 {l : List UInt8} {v : Int} (h : Lib.parseIntB 64 l = .ok v) : -9223372036854775808 ≤ v ∧ v ≤ 9223372036854775807 := by
  have h1 := Lib.parseIntB_bounds h
  have e : ((2 ^ (64 - 1) : Nat) : Int) = 9223372036854775808 := by decide
  rw [e] at h1
  omega

set_option maxHeartbeats 2000000 in
set_option maxRecDepth 100000 in
theorem implReadDecimal_any (s : ByteArray) (w : World) (hs : s.size ≤ 1048576) (hp : Pow w) (hE : Errs w) :
    Calls Tryd.prog 13 #[.string s] w fun e w' => e = .returned (rdV (spv s.data.toList)) ∧ Below w.heap.size w w' := by
  have hnn := nil_nil
  have hhn := held_nil'
  have HP := Lib.hid hp; have HE := Lib.hid hE
  clear hp hE
  rw [← ipv_spv]
  by_cases hok : ∃ v, Lib.parseIntB 64 s.data.toList = .ok v
  · obtain ⟨v, hv⟩ := hok
    have hb := parse_int64 hv
    have HV := Lib.hid hv
    by_cases hin : valueB v = true
    · obtain ⟨t, ht⟩ : ∃ t : ByteArray, (⟨(Lib.itoa v).toArray⟩ : ByteArray) = t := ⟨_, rfl⟩
      have htl : t.data.toList = Lib.itoa v := by rw [← ht]
      by_cases heq : t.data.toList = s.data.toList
      · have hcmp := (same_text t s).trans (decide_eq_true heq)
        have hip : ipv s.data.toList = some v := by
          rw [ipv_iff]; unfold valueB inB at hin; simp at hin; exact ⟨hin, by rw [← htl, heq]⟩
        have HIP := Lib.hid hip; have HI := Lib.hid hin; have HT := Lib.hid ht
        clear hip hin htl heq ht hv
        go_enter Tryd.func13, Tryd.ntmps13
        go_wp2_with (first
          | (go_at_call 38; refine (parse_ok s hs v HV.out _).mono ?_; rintro e w1 ⟨rfl, hb1⟩; have HB := Lib.hid hb1; clear hb1)
          | (go_at_call 39; refine (isValue_any v _).mono ?_; rintro e w' ⟨rfl, rfl⟩; rw [HI.out])
          | (go_at_call 11; refine (implDecimal_any v hb.1 hb.2 _ (HP.out.below HB.out)).mono ?_; rintro e w2 ⟨rfl, hb2⟩; rw [HT.out]; have HB2 := Lib.hid hb2; clear hb2))
        go_ret2
        exact ⟨by rw [HIP.out]; rfl, HB.out.trans (HB2.out.mono HB.out.size)⟩
      · have hcmp := (same_text t s).trans (decide_eq_false heq)
        have hip : ipv s.data.toList = none := by
          unfold ipv; rw [hv]; simp only
          have : fitB s.data.toList v = false := by
            unfold fitB
            rw [decide_eq_false (p := Lib.itoa v = s.data.toList) (fun e => heq (by rw [htl, e]))]; simp
          rw [this]; rfl
        have HIP := Lib.hid hip; have HI := Lib.hid hin; have HT := Lib.hid ht
        clear hip hin htl heq ht hv
        go_enter Tryd.func13, Tryd.ntmps13
        go_wp2_with (first
          | (go_at_call 38; refine (parse_ok s hs v HV.out _).mono ?_; rintro e w1 ⟨rfl, hb1⟩; have HB := Lib.hid hb1; clear hb1)
          | (go_at_call 39; refine (isValue_any v _).mono ?_; rintro e w' ⟨rfl, rfl⟩; rw [HI.out])
          | (go_at_call 11; refine (implDecimal_any v hb.1 hb.2 _ (HP.out.below HB.out)).mono ?_; rintro e w2 ⟨rfl, hb2⟩; rw [HT.out]; have HB2 := Lib.hid hb2; clear hb2))
        go_ret2
        exact ⟨by rw [HIP.out]; rfl, HB.out.trans (HB2.out.mono HB.out.size)⟩
    · have hin' : valueB v = false := by simpa using hin
      have hip : ipv s.data.toList = none := by
        unfold ipv; rw [hv]; simp only
        have : fitB s.data.toList v = false := by unfold fitB; unfold valueB inB at hin'; rw [hin']; rfl
        rw [this]; rfl
      have HIP := Lib.hid hip; have HI := Lib.hid hin'
      clear hip hin hin' hv
      go_enter Tryd.func13, Tryd.ntmps13
      go_wp2_with (first
        | (go_at_call 38; refine (parse_ok s hs v HV.out _).mono ?_; rintro e w1 ⟨rfl, hb1⟩; have HB := Lib.hid hb1; clear hb1)
        | (go_at_call 39; refine (isValue_any v _).mono ?_; rintro e w' ⟨rfl, rfl⟩; rw [HI.out]))
      go_ret2
      exact ⟨by rw [HIP.out]; rfl, HB.out⟩
  · have hno : ∀ v, Lib.parseIntB 64 s.data.toList ≠ .ok v := fun v hv => hok ⟨v, hv⟩
    have hip : ipv s.data.toList = none := by
      unfold ipv
      split
      · rename_i v hv; exact absurd hv (hno v)
      · rfl
    have HNO := Lib.hid hno; have HIP := Lib.hid hip
    clear hno hip hok
    go_enter Tryd.func13, Tryd.ntmps13
    go_wp2_with (go_at_call 38; refine (parse_bad s hs HNO.out _ HE.out).mono ?_; rintro e w1 ⟨z, u, p, rfl, hb1⟩; have HB := Lib.hid hb1; clear hb1)
    go_ret2
    exact ⟨by rw [HIP.out]; rfl, HB.out⟩

set_option maxHeartbeats 1000000 in
set_option maxRecDepth 100000 in
theorem readDecimal_walk (s : ByteArray) (w : World) (hp : Pow w) (hE : Errs w) :
    Calls Tryd.prog 4 #[.string s] w fun e w' => e = .returned (.bool true) ∧ Below w.heap.size w w' := by
  have HP := Lib.hid hp; have HE := Lib.hid hE
  clear hp hE
  by_cases hs : s.size ≤ 1048576
  · obtain ⟨r, hr⟩ : ∃ r, spv s.data.toList = r := ⟨_, rfl⟩
    have HR := Lib.hid hr
    clear hr
    cases r with
    | none =>
      go_enter Tryd.func4, Tryd.ntmps4
      go_wp2_with (first
        | (go_at_call 12; refine (specReadDecimal_any s _ hs).mono ?_; rintro e w1 ⟨rfl, hb⟩; rw [HR.out]; unfold rdV; have HB := Lib.hid hb; clear hb)
        | (go_at_call 13; refine (implReadDecimal_any s _ hs (HP.out.below HB.out) (HE.out.below HB.out)).mono ?_; rintro e w2 ⟨rfl, hb⟩; rw [HR.out]; unfold rdV; have HB2 := Lib.hid hb; clear hb))
      go_ret
      exact ⟨rfl, HB.out.trans (HB2.out.mono HB.out.size)⟩
    | some v =>
      have hne : (v != v) = false := by simp
      go_enter Tryd.func4, Tryd.ntmps4
      go_wp2_with (first
        | (go_at_call 12; refine (specReadDecimal_any s _ hs).mono ?_; rintro e w1 ⟨rfl, hb⟩; rw [HR.out]; unfold rdV; have HB := Lib.hid hb; clear hb)
        | (go_at_call 13; refine (implReadDecimal_any s _ hs (HP.out.below HB.out) (HE.out.below HB.out)).mono ?_; rintro e w2 ⟨rfl, hb⟩; rw [HR.out]; unfold rdV; have HB2 := Lib.hid hb; clear hb))
      go_ret
      exact ⟨rfl, HB.out.trans (HB2.out.mono HB.out.size)⟩
  · go_enter Tryd.func4, Tryd.ntmps4
    go_wp2
    go_ret
    exact ⟨rfl, .refl _ _⟩

theorem gErrS : Tryd.prog.globalNamed "strconv.ErrSyntax" = some 2 := by kernel_rfl
theorem gErrR : Tryd.prog.globalNamed "strconv.ErrRange" = some 3 := by kernel_rfl
theorem tErrS : (Tryd.prog.globals[2]?).map (·.type) = some 51 := by kernel_rfl
theorem tErrR : (Tryd.prog.globals[3]?).map (·.type) = some 51 := by kernel_rfl
theorem row127 (u : TypeId) (h : Tryd.prog.typeName? 3 u = some "*errors.errorString") : u = 127 :=
  typeName_ptr_named (nm := "errors.errorString") (by kernel_rfl) (by kernel_rfl) (by decide) u h
theorem errs_of_laid {W : World} {a b c : String × DataW Unit} {r : List (String × DataW Unit)} (h : laidMet Tryd.prog (a :: b :: c :: ("strconv.ErrRange", Rows.laid_strconv_ErrRange) :: ("strconv.ErrSyntax", Rows.laid_strconv_ErrSyntax) :: r) W) : Errs W := by
  obtain ⟨a0, s0, hv0, _⟩ := laid_sentinel h.tail.tail.tail gErrR tErrR Tryd.underlying51 row127 Tryd.underlying127 Tryd.underlying129 rfl rfl Tryd.underlying9 (by kernel_rfl) (by kernel_rfl)
  obtain ⟨a1, s1, hv1, _⟩ := laid_sentinel h.tail.tail.tail.tail gErrS tErrS Tryd.underlying51 row127 Tryd.underlying127 Tryd.underlying129 rfl rfl Tryd.underlying9 (by kernel_rfl) (by kernel_rfl)
  exact ⟨⟨_, _, by simpa using World.var?_cell gErrS hv1 0⟩, _, _, by simpa using World.var?_cell gErrR hv0 0⟩

theorem readDecimal_law (s : ByteArray) (w : World) (_ : s.size ≤ maxLen) (hL : laidMet Tryd.prog Rows.fnExactReadDecimalRow.laid w) :
    Calls Tryd.prog 4 #[.string s] w fun e w' => e = .returned (.bool true) ∧ Below w.heap.size w w' :=
  readDecimal_walk s w (pow_of_laid hL) (errs_of_laid hL)

end Go.Proofs.YtjlbjlcficbdlaaDoor
