/-
  Walks: the law SwapGain. Conditions: none.
-/
import Derived.Test.YtncmhinpjkkfkaaK13
set_option linter.unusedVariables false
set_option linter.unusedSimpArgs false
namespace Go.Proofs.Ytncmhinpjkkfkaa
open Go Go.RowKit

def swB (js : List J) (xs : List Int) (at' kind : Int) : Bool := canB js xs && inB kind 0 4 && inB at' 0 ((js.length : Int) - 2)
def swV (js : List J) (xs : List Int) (at' kind : Int) : Int := if swB js xs at' kind then costV js xs kind - costV js (swapL xs at'.toNat) kind else 0

theorem costV_bd {js : List J} {xs : List Int} {kind : Int} (h : canB js xs = true) : -250000 ≤ costV js xs kind ∧ costV js xs kind ≤ 250000000000 := by
  obtain ⟨hj, hl, _⟩ := canB_of h
  obtain ⟨n1, n2, hjs⟩ := jobsB_of hj
  have := @costK_bd js (endsL js xs) kind hjs (endsL_mem h) endsL_length (js.length - 1) (by omega)
  unfold costV
  omega

set_option maxHeartbeats 4000000 in
set_option maxRecDepth 100000 in
theorem specSwap (w : World) (g n c : Nat) (js : List J) (hn : js.length = n) (hcap : n ≤ c) (hm : n ≤ 1048576) (hj : JRd w g 0 js) (hg : g < w.heap.size) (g' n' c' : Nat) (xs : List Int) (hn' : xs.length = n') (hcap' : n' ≤ c') (hm' : n' ≤ 1048576) (hx : Rd w g' 0 xs) (hg' : g' < w.heap.size) (at' : Int) (lo0 : -9223372036854775808 ≤ at') (hi0 : at' ≤ 9223372036854775807) (kind : Int) (lo : -9223372036854775808 ≤ kind) (hi : kind ≤ 9223372036854775807) :
    Calls Try.prog 63 #[.slice (some ⟨g, 0, none⟩) n c, .slice (some ⟨g', 0, none⟩) n' c', .int .i64 at', .int .i64 kind] w fun e w' => e = .returned (.tuple #[.int .i64 (swV js xs at' kind), .bool (swB js xs at' kind)]) ∧ Below w.heap.size w w' := by
  have HN := Lib.hid hn; have HN' := Lib.hid hn'; have HJ := Lib.hid hj; have HX := Lib.hid hx
  by_cases hs : swB js xs at' kind = true
  case neg =>
    rw [Bool.not_eq_true] at hs
    have e1 : swV js xs at' kind = 0 := by unfold swV; rw [hs]; rfl
    rw [e1, hs]
    unfold swB at hs
    rw [hn] at hs
    have EV : Hid (cstV js xs kind = cstV js xs kind) := Lib.hid rfl
    clear hn hn' hj hx e1
    cases hc : canB js xs
    · clear hs
      go_enter Try.func63, Try.ntmps63
      go_wp2_with (first
        | (go_at_call 106; refine (specCan_any _ g n c js HN.out hcap hm HJ.out g' n' c' xs HN'.out hcap' hm' HX.out).mono ?_; rintro e w1 ⟨rfl, hd⟩; rw [hc]; have hb : Below w.heap.size w w1 := hd.below; have hj1 := HJ.out.below hb hg; have hx1 := HX.out.below hb hg'; have J1 := Lib.hid hj1; have X1 := Lib.hid hx1; clear hj1 hx1)
        | (go_at_call 69; refine (l00In_any _ _ _ _).mono ?_; rintro e w2 ⟨rfl, rfl⟩; first | rw [hk] | rw [HA.out]))
      go_ret2
      exact ⟨rfl, hb⟩
    · cases hk : inB kind 0 4
      · clear hs
        go_enter Try.func63, Try.ntmps63
        go_wp2_with (first
          | (go_at_call 106; refine (specCan_any _ g n c js HN.out hcap hm HJ.out g' n' c' xs HN'.out hcap' hm' HX.out).mono ?_; rintro e w1 ⟨rfl, hd⟩; rw [hc]; have hb : Below w.heap.size w w1 := hd.below; have hj1 := HJ.out.below hb hg; have hx1 := HX.out.below hb hg'; have J1 := Lib.hid hj1; have X1 := Lib.hid hx1; clear hj1 hx1)
          | (go_at_call 69; refine (l00In_any _ _ _ _).mono ?_; rintro e w2 ⟨rfl, rfl⟩; first | rw [hk] | rw [HA.out]))
        go_ret2
        exact ⟨rfl, hb⟩
      · have ha : inB at' 0 ((n : Int) - 2) = false := by rw [hc, hk] at hs; simpa using hs
        have HA := Lib.hid ha
        clear hs ha
        go_enter Try.func63, Try.ntmps63
        go_wp2_with (first
          | (go_at_call 106; refine (specCan_any _ g n c js HN.out hcap hm HJ.out g' n' c' xs HN'.out hcap' hm' HX.out).mono ?_; rintro e w1 ⟨rfl, hd⟩; rw [hc]; have hb : Below w.heap.size w w1 := hd.below; have hj1 := HJ.out.below hb hg; have hx1 := HX.out.below hb hg'; have J1 := Lib.hid hj1; have X1 := Lib.hid hx1; clear hj1 hx1)
          | (go_at_call 69; refine (l00In_any _ _ _ _).mono ?_; rintro e w2 ⟨rfl, rfl⟩; first | rw [hk] | rw [HA.out]))
        go_ret2
        exact ⟨rfl, hb⟩
  have hs' := hs
  unfold swB at hs'
  rw [hn] at hs'
  simp only [Bool.and_eq_true] at hs'
  obtain ⟨⟨hc, hk⟩, ha⟩ := hs'
  have e1 : swV js xs at' kind = costV js xs kind - costV js (swapL xs at'.toNat) kind := by unfold swV; rw [hs]; rfl
  rw [e1, hs]
  clear e1 hs
  obtain ⟨k0, k1⟩ := inB_lo hk
  obtain ⟨a0, a1⟩ := inB_lo ha
  have HA := Lib.hid ha
  obtain ⟨hjb, hl, hxr⟩ := canB_of hc
  obtain ⟨n1, n2, hjs⟩ := jobsB_of hjb
  have hnn : n' = n := by omega
  obtain ⟨a, rfl⟩ := Int.eq_ofNat_of_zero_le a0
  rw [Int.toNat_natCast]
  have ha1 : a + 1 < xs.length := by omega
  have hc' := canB_swap hc ha1
  have hl' := swapL_length xs a
  have b1 := costV_bd hc (kind := kind)
  have b2 := costV_bd hc' (kind := kind)
  obtain ⟨p, hp⟩ : ∃ p, xs[a]'(by omega) = p := ⟨_, rfl⟩
  obtain ⟨q, hq⟩ : ∃ q, xs[a + 1]'ha1 = q := ⟨_, rfl⟩
  have hsw : ((xs.map (Value.int .i64)).set a (.int .i64 q)).set (a + 1) (.int .i64 p) = (swapL xs a).map (Value.int .i64) := by rw [swapL_eq ha1, List.map_set, List.map_set, hp, hq]
  have hcell : ∀ w1 b, Rd w1 b 0 xs → w1.cell? ⟨b, a, none⟩ = some (.int .i64 p) ∧ w1.cell? ⟨b, a + 1, none⟩ = some (.int .i64 q) := by
    intro w1 b h1
    have h2 := h1 a (by omega); have h3 := h1 (a + 1) ha1
    rw [Nat.zero_add] at h2 h3
    rw [hp] at h2; rw [hq] at h3
    exact ⟨h2, h3⟩
  have hstore : ∀ w1 G cap, Row w1 G 2 cap (xs.map (Value.int .i64)) → (∃ v, w1.cell? ⟨G, a, none⟩ = some v) ∧ w1.frozen? ⟨G, a, none⟩ = false ∧ (∃ v, (w1.setCell ⟨G, a, none⟩ (.int .i64 q)).cell? ⟨G, a + 1, none⟩ = some v) ∧ (w1.setCell ⟨G, a, none⟩ (.int .i64 q)).frozen? ⟨G, a + 1, none⟩ = false ∧ Row ((w1.setCell ⟨G, a, none⟩ (.int .i64 q)).setCell ⟨G, a + 1, none⟩ (.int .i64 p)) G 2 cap ((swapL xs a).map (Value.int .i64)) := by
    intro w1 G cap h1
    have h2 := h1.set a (.int .i64 q)
    have h3 := h2.set (a + 1) (.int .i64 p)
    rw [hsw] at h3
    exact ⟨⟨_, h1.cell a (by simp; omega)⟩, h1.free a, ⟨_, h2.cell (a + 1) (by simp; omega)⟩, h2.free (a + 1), h3⟩
  have HCE := Lib.hid hcell; have HST := Lib.hid hstore
  clear hsw hcell hstore hp hq
  have HC := Lib.hid hc; have HC' := Lib.hid hc'; have HL' := Lib.hid (hl'.trans hn'); have B1 := Lib.hid b1; have B2 := Lib.hid b2
  have u0 : (a : Int) < n' := by omega
  have u1 : (a : Int) + 1 < n' := by omega
  have u2 : ((a : Int) + 1).toNat = a + 1 := by omega
  have u3 : (0 : Int) ≤ (a : Int) + 1 := by omega
  have u4 : IntKind.i64.wrap ((a : Int) + 1) = (a : Int) + 1 := IntWalk.i64_in _ (by omega)
  have m0 : 0 < n' := by omega
  have B3 : Hid (-9223372036854775808 ≤ costV js xs kind - costV js (swapL xs a) kind ∧ costV js xs kind - costV js (swapL xs a) kind ≤ 9223372036854775807) := Lib.hid (by omega)
  have cw : IntKind.i64.wrap (costV js xs kind - costV js (swapL xs a) kind) = costV js xs kind - costV js (swapL xs a) kind := IntWalk.i64_in _ B3.out
  clear hnn hn hn' hj hx ha hjb hl hxr n1 hjs hc' hl' b1 b2 ha1 a1
  go_enter Try.func63, Try.ntmps63
  go_wp2_with (first
    | (go_at_call 106; refine (specCan_any _ g n c js HN.out hcap hm HJ.out g' n' c' xs HN'.out hcap' hm' HX.out).mono ?_; rintro e w1 ⟨rfl, hd⟩; rw [hc]; have hb : Below w.heap.size w w1 := hd.below; have hj1 := HJ.out.below hb hg; have hx1 := HX.out.below hb hg'; have J1 := Lib.hid hj1; have X1 := Lib.hid hx1; clear hj1 hx1)
    | (go_at_call 69; refine (l00In_any _ _ _ _).mono ?_; rintro e w2 ⟨rfl, rfl⟩; first | rw [hk] | rw [HA.out])
    | (at_builtin; refine append_int _ rfl _ _ rfl w1.heap.size 0 [] 0 (by rfl) rfl (row_fresh w1) ⟨g', 0, none⟩ n' c' xs (by rfl) HN'.out (Rd.add (X1.out.below ((Below.refl w1.heap.size w1).alloc (Nat.le_refl _) _) (by have := hb.size; omega))) m0 (by omega) ?_; intro G cap w3 hr hgr hat; rw [List.nil_append] at hr; have hb3 := fresh_below hgr; have hne : g' ≠ G := (by have := hb.size; rcases hat with rfl | h; omega; simp at h; omega); have hG : w1.heap.size ≤ G := (by rcases hat with rfl | h; exact Nat.le_refl _; simp at h; omega); obtain ⟨⟨v0, s0⟩, f0, ⟨v1, s1⟩, f1, hr2⟩ := HST.out w3 G cap hr; have R2 := Lib.hid hr2; have X3 := Lib.hid (X1.out.below hb3 (by have := hb.size; omega)); obtain ⟨_, cq⟩ := HCE.out w3 g' X3.out; obtain ⟨cp, _⟩ := HCE.out (w3.setCell ⟨G, a, none⟩ (.int .i64 q)) g' (X3.out.below ((Below.refl G w3).setCell (Nat.le_refl _) _) (by have := hb.size; have := hgr.size; simp at this; omega)); have hbW := ((hb3.setCell (p := ⟨G, a, none⟩) hG (.int .i64 q)).setCell (p := ⟨G, a + 1, none⟩) hG (.int .i64 p)); clear hr hr2 hgr hat))
  generalize ((w3.setCell ⟨G, a, none⟩ (.int .i64 q)).setCell ⟨G, a + 1, none⟩ (.int .i64 p)) = W at R2 hbW ⊢
  have JW := Lib.hid (J1.out.below hbW (by have := hb.size; omega))
  have XW := Lib.hid (X1.out.below hbW (by have := hb.size; omega))
  refine (l02Cost_any W g n c js HN.out JW.out (by have := hb.size; have := hbW.size; omega) g' n' c' xs HN'.out XW.out (by have := hb.size; have := hbW.size; omega) HC.out kind k0 k1).mono ?_
  rintro e w5 ⟨rfl, hb5⟩
  have hg5 : g < W.heap.size := by have := hb.size; have := hbW.size; omega
  have J5 := Lib.hid (JW.out.below hb5 hg5)
  have R5 := Lib.hid (R2.out.below hb5 R2.out.lt)
  clear hd
  go_wp2_with fail
  go_at_call 110
  refine (l02Cost_any w5 g n c js HN.out J5.out (by have := hb5.size; omega) G n' cap (swapL xs a) HL'.out R5.out.rd R5.out.lt HC'.out kind k0 k1).mono ?_
  rintro e w6 ⟨rfl, hb6⟩
  go_wp2
  go_ret2
  exact ⟨rfl, ((hb.trans (hbW.mono hb.size)).trans (hb5.mono (by have := hb.size; have := hbW.size; omega))).trans (hb6.mono (by have := hb.size; have := hbW.size; have := hb5.size; omega))⟩

set_option maxHeartbeats 4000000 in
set_option maxRecDepth 100000 in
theorem implSwap (w : World) (g n c : Nat) (js : List J) (hn : js.length = n) (hcap : n ≤ c) (hm : n ≤ 1048576) (hj : JRd w g 0 js) (hg : g < w.heap.size) (g' n' c' : Nat) (xs : List Int) (hn' : xs.length = n') (hcap' : n' ≤ c') (hm' : n' ≤ 1048576) (hx : Rd w g' 0 xs) (hg' : g' < w.heap.size) (at' : Int) (lo0 : -9223372036854775808 ≤ at') (hi0 : at' ≤ 9223372036854775807) (kind : Int) (lo : -9223372036854775808 ≤ kind) (hi : kind ≤ 9223372036854775807) :
    Calls Try.prog 64 #[.slice (some ⟨g, 0, none⟩) n c, .slice (some ⟨g', 0, none⟩) n' c', .int .i64 at', .int .i64 kind] w fun e w' => e = .returned (.tuple #[.int .i64 (swV js xs at' kind), .bool (swB js xs at' kind)]) ∧ Below w.heap.size w w' := by
  have HN := Lib.hid hn; have HN' := Lib.hid hn'; have HJ := Lib.hid hj; have HX := Lib.hid hx
  by_cases hs : swB js xs at' kind = true
  case neg =>
    rw [Bool.not_eq_true] at hs
    have e1 : swV js xs at' kind = 0 := by unfold swV; rw [hs]; rfl
    rw [e1, hs]
    unfold swB at hs
    rw [hn] at hs
    have EV : Hid (cstV js xs kind = cstV js xs kind) := Lib.hid rfl
    clear hn hn' hj hx e1
    cases hcb : cstB js xs kind
    · have EB := Lib.hid hcb
      clear hs hcb
      go_enter Try.func64, Try.ntmps64
      go_wp2_with (first
        | (go_at_call 62; refine (implCostOf _ g n c js HN.out hcap hm HJ.out hg g' n' c' xs HN'.out hcap' hm' HX.out hg' kind lo hi).mono ?_; rintro e w1 ⟨rfl, hb⟩; rw [EV.out, EB.out]; have hj1 := HJ.out.below hb hg; have hx1 := HX.out.below hb hg'; have J1 := Lib.hid hj1; have X1 := Lib.hid hx1; clear hj1 hx1)
        | (go_at_call 71; refine (within_any _ _ _ _).mono ?_; rintro e w2 ⟨rfl, rfl⟩; rw [HA.out]))
      go_ret2
      exact ⟨rfl, hb⟩
    · have EB := Lib.hid hcb
      have ha : inB at' 0 ((n : Int) - 2) = false := by unfold cstB at hcb; rw [hcb] at hs; simpa using hs
      have HA := Lib.hid ha
      clear hs ha hcb
      go_enter Try.func64, Try.ntmps64
      go_wp2_with (first
        | (go_at_call 62; refine (implCostOf _ g n c js HN.out hcap hm HJ.out hg g' n' c' xs HN'.out hcap' hm' HX.out hg' kind lo hi).mono ?_; rintro e w1 ⟨rfl, hb⟩; rw [EV.out, EB.out]; have hj1 := HJ.out.below hb hg; have hx1 := HX.out.below hb hg'; have J1 := Lib.hid hj1; have X1 := Lib.hid hx1; clear hj1 hx1)
        | (go_at_call 71; refine (within_any _ _ _ _).mono ?_; rintro e w2 ⟨rfl, rfl⟩; rw [HA.out]))
      go_ret2
      exact ⟨rfl, hb⟩
  have hs' := hs
  unfold swB at hs'
  rw [hn] at hs'
  simp only [Bool.and_eq_true] at hs'
  obtain ⟨⟨hc, hk⟩, ha⟩ := hs'
  have e1 : swV js xs at' kind = costV js xs kind - costV js (swapL xs at'.toNat) kind := by unfold swV; rw [hs]; rfl
  rw [e1, hs]
  clear e1 hs
  obtain ⟨k0, k1⟩ := inB_lo hk
  obtain ⟨a0, a1⟩ := inB_lo ha
  have HA := Lib.hid ha
  obtain ⟨hjb, hl, hxr⟩ := canB_of hc
  obtain ⟨n1, n2, hjs⟩ := jobsB_of hjb
  have hnn : n' = n := by omega
  obtain ⟨a, rfl⟩ := Int.eq_ofNat_of_zero_le a0
  rw [Int.toNat_natCast]
  have ha1 : a + 1 < xs.length := by omega
  have hc' := canB_swap hc ha1
  have hl' := swapL_length xs a
  have b1 := costV_bd hc (kind := kind)
  have b2 := costV_bd hc' (kind := kind)
  obtain ⟨p, hp⟩ : ∃ p, xs[a]'(by omega) = p := ⟨_, rfl⟩
  obtain ⟨q, hq⟩ : ∃ q, xs[a + 1]'ha1 = q := ⟨_, rfl⟩
  have hsw : ((xs.map (Value.int .i64)).set a (.int .i64 q)).set (a + 1) (.int .i64 p) = (swapL xs a).map (Value.int .i64) := by rw [swapL_eq ha1, List.map_set, List.map_set, hp, hq]
  have hcell : ∀ w1 b, Rd w1 b 0 xs → w1.cell? ⟨b, a, none⟩ = some (.int .i64 p) ∧ w1.cell? ⟨b, a + 1, none⟩ = some (.int .i64 q) := by
    intro w1 b h1
    have h2 := h1 a (by omega); have h3 := h1 (a + 1) ha1
    rw [Nat.zero_add] at h2 h3
    rw [hp] at h2; rw [hq] at h3
    exact ⟨h2, h3⟩
  have hstore : ∀ w1 G cap, Row w1 G 2 cap (xs.map (Value.int .i64)) → (∃ v, w1.cell? ⟨G, a, none⟩ = some v) ∧ w1.frozen? ⟨G, a, none⟩ = false ∧ (∃ v, (w1.setCell ⟨G, a, none⟩ (.int .i64 q)).cell? ⟨G, a + 1, none⟩ = some v) ∧ (w1.setCell ⟨G, a, none⟩ (.int .i64 q)).frozen? ⟨G, a + 1, none⟩ = false ∧ Row ((w1.setCell ⟨G, a, none⟩ (.int .i64 q)).setCell ⟨G, a + 1, none⟩ (.int .i64 p)) G 2 cap ((swapL xs a).map (Value.int .i64)) := by
    intro w1 G cap h1
    have h2 := h1.set a (.int .i64 q)
    have h3 := h2.set (a + 1) (.int .i64 p)
    rw [hsw] at h3
    exact ⟨⟨_, h1.cell a (by simp; omega)⟩, h1.free a, ⟨_, h2.cell (a + 1) (by simp; omega)⟩, h2.free (a + 1), h3⟩
  have HCE := Lib.hid hcell; have HST := Lib.hid hstore
  clear hsw hcell hstore hp hq
  have HC := Lib.hid hc; have HC' := Lib.hid hc'; have HL' := Lib.hid (hl'.trans hn'); have B1 := Lib.hid b1; have B2 := Lib.hid b2
  have u0 : (a : Int) < n' := by omega
  have u1 : (a : Int) + 1 < n' := by omega
  have u2 : ((a : Int) + 1).toNat = a + 1 := by omega
  have u3 : (0 : Int) ≤ (a : Int) + 1 := by omega
  have u4 : IntKind.i64.wrap ((a : Int) + 1) = (a : Int) + 1 := IntWalk.i64_in _ (by omega)
  have m0 : 0 < n' := by omega
  have B3 : Hid (-9223372036854775808 ≤ costV js xs kind - costV js (swapL xs a) kind ∧ costV js xs kind - costV js (swapL xs a) kind ≤ 9223372036854775807) := Lib.hid (by omega)
  have eb : cstB js xs kind = true := by unfold cstB; rw [hc, hk]; rfl
  have ev : cstV js xs kind = costV js xs kind := by unfold cstV; rw [eb]; rfl
  have eb' : cstB js (swapL xs a) kind = true := by unfold cstB; rw [hc', hk]; rfl
  have ev' : cstV js (swapL xs a) kind = costV js (swapL xs a) kind := by unfold cstV; rw [eb']; rfl
  have EB := Lib.hid eb; have EV := Lib.hid ev; have EV' := Lib.hid ev'
  clear eb ev eb' ev'
  have cw : IntKind.i64.wrap (costV js xs kind - costV js (swapL xs a) kind) = costV js xs kind - costV js (swapL xs a) kind := IntWalk.i64_in _ B3.out
  clear hnn hn hn' hj hx ha hjb hl hxr n1 hjs hc' hl' b1 b2 ha1 a1
  go_enter Try.func64, Try.ntmps64
  go_wp2_with (first
    | (go_at_call 62; refine (implCostOf _ g n c js HN.out hcap hm HJ.out hg g' n' c' xs HN'.out hcap' hm' HX.out hg' kind lo hi).mono ?_; rintro e w1 ⟨rfl, hb⟩; rw [EV.out, EB.out]; have hj1 := HJ.out.below hb hg; have hx1 := HX.out.below hb hg'; have J1 := Lib.hid hj1; have X1 := Lib.hid hx1; clear hj1 hx1)
    | (go_at_call 71; refine (within_any _ _ _ _).mono ?_; rintro e w2 ⟨rfl, rfl⟩; rw [HA.out])
    | (go_at_call 112; refine (clone_any w1 g' n' c' xs HN'.out X1.out (by have := hb.size; omega) m0 (by omega)).mono ?_; rintro e w3 ⟨G, cap, rfl, hr, hG, hb3⟩; have hne : g' ≠ G := (by have := hb.size; omega); obtain ⟨⟨v0, s0⟩, f0, ⟨v1, s1⟩, f1, hr2⟩ := HST.out w3 G cap hr; have R2 := Lib.hid hr2; obtain ⟨cp, cq⟩ := HCE.out w3 G hr.rd; have hbW := ((hb3.setCell (p := ⟨G, a, none⟩) hG (.int .i64 q)).setCell (p := ⟨G, a + 1, none⟩) hG (.int .i64 p)); clear hr hr2))
  clear s0
  go_region
  have hcG : n' ≤ cap := by have := R2.out.cap; rw [List.length_map, HL'.out] at this; exact this
  generalize ((w3.setCell ⟨G, a, none⟩ (.int .i64 q)).setCell ⟨G, a + 1, none⟩ (.int .i64 p)) = W at R2 hbW ⊢
  have hbD : Below w1.heap.size w1 W.drew := hbW.drew
  have hsz : w1.heap.size ≤ W.drew.heap.size := hbD.size
  have JW := Lib.hid (J1.out.below hbD (by have := hb.size; omega))
  have RW : Hid (Row W.drew G 2 cap ((swapL xs a).map (Value.int .i64))) := Lib.hid (R2.out.dr (.one _ _))
  go_wp2_with fail
  go_at_call 62
  refine (implCostOf W.drew g n c js HN.out hcap hm JW.out (by have := hb.size; omega) G n' cap (swapL xs a) HL'.out hcG hm' RW.out.rd RW.out.lt kind lo hi).mono ?_
  rintro e w5 ⟨rfl, hb5⟩
  rw [EV'.out]
  go_wp2
  go_ret2
  exact ⟨rfl, (hb.trans (hbD.mono hb.size)).trans (hb5.mono (by have := hb.size; omega))⟩

set_option maxHeartbeats 4000000 in
set_option maxRecDepth 100000 in
theorem swapGain_walk (a0 : Option Addr) (len0 cap0 : Nat) (z0 : List J) (a1 : Option Addr) (len1 cap1 : Nat) (z1 : List Int) (x2 : Int) (x3 : Int) (w : World) (w0 : IsJobs w a0 len0 z0 ∧ len0 ≤ maxLen) (w1 : IsRow .i64 w a1 len1 cap1 z1) (wf2 : (Lit.int .i64 x2).wf = true) (wf3 : (Lit.int .i64 x3).wf = true) :
    Calls Try.prog 19 #[.slice a0 len0 cap0, .slice a1 len1 cap1, .int .i64 x2, .int .i64 x3] w fun e w' => e = .returned (.bool true) ∧ Below w.heap.size w w' := by
  have hlz1 := w1.len
  have HLm1 : len1 ≤ 9223372036854775807 := by
    have := w1; rcases this with ⟨_, h, _, _⟩ | ⟨_, _, h1, h2, _⟩ <;> simp only [maxLen] at * <;> omega
  have W1 := Lib.hid w1; clear w1
  have HL1 := Lib.hid (take_len hlz1)
  clear hlz1
  obtain ⟨w0, hlen0⟩ := w0
  have W0 := Lib.hid w0; clear w0
  have HL0 := Lib.hid W0.out.1
  unfold maxLen at hlen0
  have bd2 : -9223372036854775808 ≤ x2 ∧ x2 ≤ 9223372036854775807 := by simpa [Lit.wf, IntKind.min, IntKind.max, IntKind.signed, IntKind.bits] using wf2
  obtain ⟨lo2, hi2⟩ := bd2
  clear wf2
  have bd3 : -9223372036854775808 ≤ x3 ∧ x3 ≤ 9223372036854775807 := by simpa [Lit.wf, IntKind.min, IntKind.max, IntKind.signed, IntKind.bits] using wf3
  obtain ⟨lo3, hi3⟩ := bd3
  clear wf3
  by_cases h1 : len1 ≤ 1048576
  case neg =>
    go_enter Try.func19, Try.ntmps19
    go_wp2
    go_ret
    exact ⟨rfl, .refl _ _⟩
  by_cases hs0 : len0 ≤ 1048576
  case neg =>
    have hz0 : szV (1048576) len0 = -1 := by unfold szV; rw [if_pos (by omega)]
    have HZ0 := Lib.hid hz0; clear hz0
    go_enter Try.func19, Try.ntmps19
    go_wp2_with fail
    go_at_call 26
    refine (szJobS_any _ _ _ _ _ (by omega) (by omega) (by omega)).mono ?_
    rintro e w' ⟨rfl, rfl⟩
    rw [HZ0.out]
    go_wp2
    go_ret
    exact ⟨rfl, .refl _ _⟩
  have hz0 : szV (1048576) len0 = 1048576 - len0 := by unfold szV; rw [if_neg (by omega)]
  have HZ0 := Lib.hid hz0; clear hz0
  have h0 : len0 ≤ 1048576 := by omega
  go_enter Try.func19, Try.ntmps19
  go_wp2_with fail
  go_at_call 26
  refine (szJobS_any _ _ _ _ _ (by omega) (by omega) (by omega)).mono ?_
  rintro e w' ⟨rfl, rfl⟩
  rw [HZ0.out]
  have B0 := Lib.hid (Below.refl w.heap.size w)
  go_wp2_with fail
  go_at_call 28
  refine (toJobS_any a0 len0 cap0 z0 _ (W0.out.below B0.out) h0).mono ?_
  rintro e w1 ⟨gS0, rfl, hr, hg, hb⟩
  rw [HL0.out]
  have B1 := Lib.hid (B0.out.trans (hb.mono B0.out.size))
  have S0_1 := Lib.hid hr; clear hr hb hg
  go_wp2_with fail
  go_at_call 23
  refine (toInt64S_any a1 len1 cap1 z1 _ (W1.out.below B1.out) h1).mono ?_
  rintro e w2 ⟨gS1, rfl, hr, hg, hb⟩
  rw [HL1.out] at hr ⊢
  have S0_2 := Lib.hid (S0_1.out.below hb S0_1.out.lt)
  have B2 := Lib.hid (B1.out.trans (hb.mono B1.out.size))
  have S1_2 := Lib.hid hr; clear hr hb hg
  go_wp2_with fail
  go_at_call 63
  refine (specSwap _ gS0 len0 len0 z0 HL0.out (Nat.le_refl _) h0 S0_2.out.rd S0_2.out.lt gS1 len1 len1 (z1.take len1) HL1.out (Nat.le_refl _) h1 S1_2.out.rd S1_2.out.lt x2 (by omega) (by omega) x3 (by omega) (by omega)).mono ?_
  rintro e w3 ⟨rfl, hb⟩
  have S0_3 := Lib.hid (S0_2.out.below hb S0_2.out.lt)
  have S1_3 := Lib.hid (S1_2.out.below hb S1_2.out.lt)
  have B3 := Lib.hid (B2.out.trans (hb.mono B2.out.size))
  clear hb
  go_wp2_with fail
  go_at_call 28
  refine (toJobS_any a0 len0 cap0 z0 _ (W0.out.below B3.out) h0).mono ?_
  rintro e w4 ⟨gX0, rfl, hr, hg, hb⟩
  rw [HL0.out]
  have B4 := Lib.hid (B3.out.trans (hb.mono B3.out.size))
  have X0_4 := Lib.hid hr; clear hr hb hg
  go_wp2_with fail
  go_at_call 23
  refine (toInt64S_any a1 len1 cap1 z1 _ (W1.out.below B4.out) h1).mono ?_
  rintro e w5 ⟨gX1, rfl, hr, hg, hb⟩
  rw [HL1.out] at hr ⊢
  have X0_5 := Lib.hid (X0_4.out.below hb X0_4.out.lt)
  have B5 := Lib.hid (B4.out.trans (hb.mono B4.out.size))
  have X1_5 := Lib.hid hr; clear hr hb hg
  go_wp2_with fail
  go_at_call 64
  refine (implSwap _ gX0 len0 len0 z0 HL0.out (Nat.le_refl _) h0 X0_5.out.rd X0_5.out.lt gX1 len1 len1 (z1.take len1) HL1.out (Nat.le_refl _) h1 X1_5.out.rd X1_5.out.lt x2 (by omega) (by omega) x3 (by omega) (by omega)).mono ?_
  rintro e w6 ⟨rfl, hb⟩
  have X0_6 := Lib.hid (X0_5.out.below hb X0_5.out.lt)
  have X1_6 := Lib.hid (X1_5.out.below hb X1_5.out.lt)
  have B6 := Lib.hid (B5.out.trans (hb.mono B5.out.size))
  clear hb
  go_wp2_with fail
  go_at_call 28
  refine (toJobS_any a0 len0 cap0 z0 _ (W0.out.below B6.out) h0).mono ?_
  rintro e w7 ⟨gE0, rfl, hr, hg, hb⟩
  rw [HL0.out]
  have X0_7 := Lib.hid (X0_6.out.below hb X0_6.out.lt)
  have X1_7 := Lib.hid (X1_6.out.below hb X1_6.out.lt)
  have B7 := Lib.hid (B6.out.trans (hb.mono B6.out.size))
  have E0_7 := Lib.hid hr; clear hr hb hg
  go_wp2_with fail
  go_at_call 30
  refine (eqJobS_any _ _ len0 len0 len0 len0 z0 z0 _ HL0.out HL0.out X0_7.out.at' E0_7.out.at' h0 h0).mono ?_
  rintro e w8 ⟨rfl, hb⟩
  rw [eqJs_self]
  have X0_8 := Lib.hid (X0_7.out.below hb X0_7.out.lt)
  have X1_8 := Lib.hid (X1_7.out.below hb X1_7.out.lt)
  have B8 := Lib.hid (B7.out.trans (hb.mono B7.out.size))
  clear hb
  go_wp2_with fail
  go_at_call 23
  refine (toInt64S_any a1 len1 cap1 z1 _ (W1.out.below B8.out) h1).mono ?_
  rintro e w9 ⟨gE1, rfl, hr, hg, hb⟩
  rw [HL1.out] at hr ⊢
  have X0_9 := Lib.hid (X0_8.out.below hb X0_8.out.lt)
  have X1_9 := Lib.hid (X1_8.out.below hb X1_8.out.lt)
  have B9 := Lib.hid (B8.out.trans (hb.mono B8.out.size))
  have E1_9 := Lib.hid hr; clear hr hb hg
  go_wp2_with fail
  go_at_call 25
  refine (eqInt64S_any _ _ len1 len1 len1 len1 (z1.take len1) (z1.take len1) _ HL1.out HL1.out X1_9.out.at' E1_9.out.at' h1 h1).mono ?_
  rintro e w10 ⟨rfl, hd⟩
  rw [eqB_self]
  have hb : Below w9.heap.size w9 w10 := hd.below
  have X0_10 := Lib.hid (X0_9.out.below hb X0_9.out.lt)
  have X1_10 := Lib.hid (X1_9.out.below hb X1_9.out.lt)
  have B10 := Lib.hid (B9.out.trans (hb.mono B9.out.size))
  clear hb
  go_wp2
  go_ret
  exact ⟨rfl, B10.out⟩

end Go.Proofs.Ytncmhinpjkkfkaa
