/-
  Walks: the copies and comparisons of the laws, orders of numbers; the law IsOrder. Conditions: none.
-/
import Derived.Test.YtncmhinpjkkfkaaJ1
import Derived.OpenShut
set_option linter.unusedVariables false
set_option linter.unusedSimpArgs false
namespace Go.Proofs.Ytncmhinpjkkfkaa
open Go Go.RowKit

/-- A slice of integers that came in: nil, or a row of 'cap' cells, the numbers 'zs'; the first 'len' are its elements. -/
def IsRow (k : IntKind) (w : World) (a : Option Addr) (len cap : Nat) (zs : List Int) : Prop :=
  (a = none ∧ len = 0 ∧ cap = 0 ∧ zs = []) ∨
  ∃ x, a = some x ∧ len ≤ cap ∧ cap ≤ maxLen ∧ zs.length = cap ∧ (∀ i, i < zs.length → w.cell? (x.add i) = some (.int k (zs.getD i 0))) ∧ ∀ n ∈ zs, (Lit.int k n).wf = true

theorem IsRow.below {k : IntKind} {w w' : World} {a : Option Addr} {len cap : Nat} {zs : List Int} (h : IsRow k w a len cap zs) (hb : Below w.heap.size w w') : IsRow k w' a len cap zs := by
  rcases h with h | ⟨x, h1, h2, h3, h4, h5, h6⟩
  · exact .inl h
  · refine .inr ⟨x, h1, h2, h3, h4, fun i hi => ?_, h6⟩
    have := h5 i hi
    have hl := block_lt_of_cell this
    rw [hb.cell hl]; exact this

theorem addr_add (b off j : Nat) : (⟨b, off, none⟩ : Addr).add j = ⟨b, off + j, none⟩ := by
  unfold Addr.add
  by_cases h : j = 0
  · subst h; simp
  · simp [h]

/-- A list of integers in a new block. -/
def Made (w : World) (xs : List Int) (e : Ending) (w' : World) : Prop :=
  ∃ g, e = .returned (.slice (some ⟨g, 0, none⟩) xs.length xs.length) ∧ Row w' g 2 xs.length (xs.map (Value.int .i64)) ∧ w.heap.size ≤ g ∧ Below w.heap.size w w'

theorem Try.info2 : (Try.prog.info? 2).map (fun i => (i.zero, i.size, i.bytes)) = some (some (.int .i64 0), 1, 8) := by kernel_rfl

/-- The copy when k elements are copied. -/
def part (zs : List Int) (len k : Nat) : List Value := (zs.take k ++ List.replicate (len - k) 0).map (Value.int .i64)

theorem part_zero (zs : List Int) (len : Nat) : part zs len 0 = List.replicate len (.int .i64 0) := by simp [part]
theorem part_all (zs : List Int) (len : Nat) : part zs len len = (zs.take len).map (Value.int .i64) := by simp [part]
theorem part_len (zs : List Int) (len k : Nat) (h : k ≤ len) (hl : len ≤ zs.length) : (part zs len k).length = len := by simp [part]; omega
theorem part_set (zs : List Int) (len k : Nat) (h : k < len) (hl : len ≤ zs.length) : (part zs len k).set k (.int .i64 zs[k]) = part zs len (k + 1) := by
  have hk : (zs.take k).length = k := by simp; omega
  unfold part
  rw [show len - k = (len - (k + 1)) + 1 from by omega, List.replicate_succ, List.map_append, List.set_append_right _ _ (by simp; omega)]
  simp only [List.length_map, hk, Nat.sub_self, List.map_cons, List.set_cons_zero]
  rw [List.take_succ_eq_append_getElem (by omega), List.map_append, List.map_append, List.append_assoc]
  rfl

set_option maxHeartbeats 1000000 in
theorem toInt64S_any (a : Option Addr) (len cap : Nat) (zs : List Int) (w : World) (hr : IsRow .i64 w a len cap zs) (hm : len ≤ 1048576) :
    Calls Try.prog 23 #[.slice a len cap] w (Made w (zs.take len)) := by
  have hlz : len ≤ zs.length := by
    rcases hr with ⟨_, h, _, _⟩ | ⟨_, _, h1, _, h2, _⟩ <;> omega
  have hfin : ∀ g w', Row w' g 2 len (part zs len len) → w.heap.size ≤ g → Below w.heap.size w w' → Made w (zs.take len) (.returned (.slice (some ⟨g, 0, none⟩) len len)) w' := by
    intro g w' h1 h2 h3
    have hl : (zs.take len).length = len := by simp; omega
    refine ⟨g, by rw [hl], ?_, h2, h3⟩
    rw [hl, ← part_all]; exact h1
  have HF := Lib.hid hfin; clear hfin
  by_cases h0 : len = 0
  · subst h0
    go_enter Try.func23, Try.ntmps23
    go_wp2_with (at_make; refine wp_make rfl (.tmp 6) 22 rfl 2 (.int .i64 0) 8 Try.underlying22 Try.info2 rfl 0 .i64 _ rfl rfl (by omega) (by decide) ?_; intro w1 hrow hbel)
    refine wp_loop_rounds 1 ?_; rw [rounds_succ]
    go_wp2
    go_ret
    exact HF.out _ _ (by rw [part_zero]; exact hrow) (Nat.le_refl _) hbel
  · obtain ⟨b, off, rfl, hc⟩ : ∃ b off, a = some ⟨b, off, none⟩ ∧ ∀ j (h : j < len), w.cell? ⟨b, off + j, none⟩ = some (.int .i64 zs[j]) := by
      rcases hr with ⟨_, h, _, _⟩ | ⟨x, rfl, h1, _, h2, h3, _⟩
      · omega
      · obtain ⟨b, off, spot⟩ := x
        have hspot : spot = none := by simpa [Addr.add] using World.cell?_spot (h3 0 (by omega))
        subst hspot
        exact ⟨b, off, rfl, fun j hj => by have := h3 j (by omega); rw [addr_add] at this; simpa [List.getElem?_eq_getElem (show j < zs.length by omega)] using this⟩
    have HC := Lib.hid hc; clear hc
    go_enter Try.func23, Try.ntmps23
    go_wp2_with (at_make; refine wp_make rfl (.tmp 6) 22 rfl 2 (.int .i64 0) 8 Try.underlying22 Try.info2 rfl len .i64 _ rfl rfl (by omega) (by unfold maxLen; omega) ?_; intro w1 hrow hbel)
    have HLT := hrow.lt
    rw [← part_zero zs] at hrow
    go_loopw [4] (fun i wr => ∃ k : Nat, k ≤ len ∧ i = .int .i64 k ∧ Row wr w.heap.size 2 len (part zs len k) ∧ Below w.heap.size w wr) (fun i _ => len - (intOf i).toNat)
    case atStart => exact ⟨0, Nat.zero_le _, rfl, hrow, hbel⟩
    case round =>
      obtain ⟨k, hk, rfl, hrk, hbk⟩ := hrel
      have HR := Lib.hid hrk; have HB := Lib.hid hbk
      by_cases hlt : k < len
      · have hcell : wr.cell? ⟨b, off + k, none⟩ = some (.int .i64 zs[k]) := by
          have h1 := HC.out k hlt
          rw [hbk.cell (block_lt_of_cell h1)]; exact h1
        have hold := hrk.cell k (by rw [part_len zs len k hk hlz]; exact hlt)
        have hfree := hrk.free k
        have hset := hrk.set k (.int .i64 zs[k])
        rw [part_set zs len k hlt hlz] at hset
        have HS := Lib.hid hset
        clear hrk hbk hset hrow hbel
        go_wp2
        go_roundw
        case rel => exact ⟨k + 1, by omega, by go_num, HS.out, HB.out.setCell (Nat.le_refl _) _⟩
        case measure => simp [intOf]; omega
      · obtain rfl : k = len := by omega
        clear hrk hbk hrow hbel
        go_wp2
        go_ret
        exact HF.out _ _ HR.out (Nat.le_refl _) HB.out

/-- The cells behind a slice's address hold a list of integers. -/
def At (w : World) (a : Option Addr) (xs : List Int) : Prop := xs = [] ∨ ∃ g o, a = some ⟨g, o, none⟩ ∧ Rd w g o xs

theorem At.nil (w : World) (a : Option Addr) : At w a [] := .inl rfl
theorem Row.at' {w : World} {g c : Nat} {xs : List Int} (h : Row w g 2 c (xs.map (Value.int .i64))) : At w (some ⟨g, 0, none⟩) xs := .inr ⟨g, 0, rfl, h.rd⟩
theorem Rd.at' {w : World} {g o : Nat} {xs : List Int} (h : Rd w g o xs) : At w (some ⟨g, o, none⟩) xs := .inr ⟨g, o, rfl, h⟩

def eqB (xs ys : List Int) : Bool := decide (xs = ys)

/-- The first k of both are the same. -/
def eqK (xs ys : List Int) (k : Nat) : Prop := xs.take k = ys.take k

theorem eqK_succ {xs ys : List Int} {k : Nat} (h : eqK xs ys k) (hx : k < xs.length) (hy : k < ys.length) (e : xs[k] = ys[k]) : eqK xs ys (k + 1) := by
  unfold eqK at *
  rw [List.take_succ_eq_append_getElem hx, List.take_succ_eq_append_getElem hy, h, e]

theorem eqB_false_len {xs ys : List Int} (h : xs.length ≠ ys.length) : eqB xs ys = false := by
  unfold eqB; exact decide_eq_false fun e => h (by rw [e])

theorem eqB_false_at {xs ys : List Int} {k : Nat} (hx : k < xs.length) (hy : k < ys.length) (e : ¬ xs[k] = ys[k]) : eqB xs ys = false := by
  unfold eqB; exact decide_eq_false fun h => e (by subst h; rfl)

theorem eqB_true {xs ys : List Int} (h : eqK xs ys xs.length) (hl : xs.length = ys.length) : eqB xs ys = true := by
  unfold eqB eqK at *
  rw [List.take_length, hl, List.take_length] at h
  simp [h]

set_option maxHeartbeats 1000000 in
theorem eqInt64S_any (a a' : Option Addr) (n n' c c' : Nat) (xs ys : List Int) (w : World) (hn : xs.length = n) (hn' : ys.length = n') (hx : At w a xs) (hy : At w a' ys) (hm : n ≤ 1048576) (hm' : n' ≤ 1048576) :
    Calls Try.prog 25 #[.slice a n c, .slice a' n' c'] w fun e w' => e = .returned (.bool (eqB xs ys)) ∧ Dr w w' := by
  by_cases hl : n = n'
  · subst hl
    have hl : xs.length = ys.length := by omega
    have HL := Lib.hid hl; have HN := Lib.hid hn; have HN' := Lib.hid hn'
    by_cases h0 : n = 0
    · have he : eqB xs ys = true := eqB_true (by unfold eqK; rw [show xs.length = 0 by omega]; simp) hl
      have HE := Lib.hid he
      subst h0
      clear hl hn hn' he hx hy
      go_enter Try.func25, Try.ntmps25
      go_wp2
      refine wp_loop_rounds 1 ?_; rw [rounds_succ]
      go_wp2
      go_ret
      exact ⟨ret_bool HE.out.symm, .refl _⟩
    · rcases hx with rfl | ⟨g, o, rfl, hx⟩
      · simp at hn; omega
      rcases hy with rfl | ⟨g', o', rfl, hy⟩
      · simp at hn'; omega
      have HX := Lib.hid hx; have HY := Lib.hid hy
      clear hl hn hn' hx hy
      go_enter Try.func25, Try.ntmps25
      go_wp2
      go_loopw [5] (fun i wr => ∃ k : Nat, k ≤ n ∧ i = .int .i64 k ∧ eqK xs ys k ∧ Dr w wr) (fun i _ => n - (intOf i).toNat)
      case atStart => exact ⟨0, Nat.zero_le _, rfl, by simp [eqK], .refl _⟩
      case round =>
        obtain ⟨k, hk, rfl, hno, hd⟩ := hrel
        by_cases hlt : k < n
        · have hkx : k < xs.length := by have := HN.out; omega
          have hky : k < ys.length := by have := HN'.out; omega
          have c1 := hd.rd HX.out k hkx
          have c2 := hd.rd HY.out k hky
          have HK := Lib.hid hno; have HD := Lib.hid hd
          clear hno hd
          by_cases he : xs[k] = ys[k]
          · have hs := eqK_succ HK.out hkx hky he
            have HS := Lib.hid hs
            have hne : (xs[k] != ys[k]) = false := by simp [he]
            clear hs he
            go_wp2
            go_quiet (fail)
            go_wp2
            go_roundw
            case rel => exact ⟨k + 1, by omega, by go_num, HS.out, HD.out.drewN _⟩
            case measure => simp [intOf]; omega
          · have hs := eqB_false_at hkx hky he
            have HS := Lib.hid hs
            have hne : (xs[k] != ys[k]) = true := by simp [he]
            clear hs he
            go_wp2
            go_quiet (fail)
            go_wp2
            go_ret
            exact ⟨ret_bool HS.out.symm, HD.out.drewN _⟩
        · have hno' : eqB xs ys = true := eqB_true (by obtain rfl : k = n := by omega
                                                       rw [HN.out]; exact hno) HL.out
          have HK := Lib.hid hno'; have HD := Lib.hid hd
          clear hno hno' hd
          go_wp2
          go_ret
          exact ⟨ret_bool HK.out.symm, HD.out⟩
  · have he := eqB_false_len (xs := xs) (ys := ys) (by omega)
    have HE := Lib.hid he
    have hne : ((n : Int) != (n' : Int)) = true := by simp; omega
    clear he hn hn' hx hy
    go_enter Try.func25, Try.ntmps25
    go_wp2
    go_ret
    exact ⟨ret_bool HE.out.symm, .refl _⟩
end Go.Proofs.Ytncmhinpjkkfkaa
