/-
  Walks: the law MeanFlow. Conditions: none.
-/
import Derived.Test.YtncmhinpjkkfkaaK11
import Derived.Test.YtncmhinpjkkfkaaFlo
import Derived.Test.YtncmhinpjkkfkaaVal
namespace Go.Proofs.Ytncmhinpjkkfkaa
open Go Go.RowKit Flo Val

attribute [local go_sem] run_fadd run_fsub run_fmul run_fquo run_fconv

theorem like_conv {w : World} {x y : Nat} (h : Like .f32 x y) : Like .f64 (cres .f32 .f64 w x) (fconv .f32 .f64 y) :=
  (like_cres (conv_open x)).trans (fconv_like h)
theorem like_conv2 {w w' : World} {x y : Nat} (h : Like .f32 x y) : Like .f64 (cres .f32 .f64 w x) (cres .f32 .f64 w' y) :=
  (like_conv h).trans (like_cres (conv_open y)).symm
theorem nan_of_like {k : FloatKind} {x y : Nat} (h : Like k x y) : isNaN k x = isNaN k y := by
  rcases h with rfl | ⟨h1, h2⟩
  · rfl
  · rw [h1, h2]

theorem sameFloat_like (a b : Nat) (w : World) (h : Like .f64 a b) : Calls Try.prog 55 #[.float .f64 a, .float .f64 b] w fun e w' => e = .returned (.bool true) ∧ Dr w w' := by
  have e1 := order_self .f64 a
  have e2 := order_self .f64 b
  by_cases hn : isNaN .f64 a = true
  · have hn2 : isNaN .f64 b = true := by rw [← nan_of_like h]; exact hn
    rw [if_pos hn] at e1; rw [if_pos hn2] at e2
    clear h hn hn2
    go_enter Try.func55, Try.ntmps55
    go_wp2
    go_ret
    exact ⟨rfl, .refl _⟩
  · obtain rfl : a = b := by
      rcases h with h | h
      · exact h
      · exact absurd h.1 hn
    rw [if_neg hn] at e1
    clear h hn e2
    by_cases hz : FloatKind.f64.format.order a 0 = some .eq
    · have hd : ∀ w, FloatKind.f64.format.order (fres .quo .f64 w 4607182418800017408 a) 0 = FloatKind.f64.format.order (fop .quo .f64 4607182418800017408 a) 0 := fun w => order_like (like_fres _ _ _ _ _) (.refl _ _)
      go_enter Try.func55, Try.ntmps55
      go_wp2
      go_ret
      exact ⟨ret_bool (by simp), .one _ _⟩
    · have hz2 : (FloatKind.f64.format.order a 0 == some .eq) = false := by simpa using hz
      clear hz
      go_enter Try.func55, Try.ntmps55
      go_wp2
      go_ret
      exact ⟨ret_bool (by simp [e1]), .refl _⟩

def flowK (js : List J) (es : List Int) : Nat → Int
  | 0 => 0
  | k + 1 => flowK js es k + (eN es k - (jN js k).rel)

theorem flowK_bd {js : List J} {es : List Int} {n : Nat} (h : ∀ i, i < n → -1000000 ≤ eN es i - (jN js i).rel ∧ eN es i - (jN js i).rel ≤ 1000000) : ∀ k, k ≤ n → -1000000 * (k : Int) ≤ flowK js es k ∧ flowK js es k ≤ 1000000 * k := by
  intro k
  induction k with
  | zero => intro _; simp [flowK]
  | succ k ih =>
    intro hk
    have h1 := ih (by omega)
    have h2 := h k (by omega)
    unfold flowK
    omega

def meanV (js : List J) (xs : List Int) : Nat := fop .quo .f32 (FloatKind.f32.nearest (flowK js (endsL js xs) js.length)) (FloatKind.f32.nearest js.length)
def MeanP (js : List J) (xs : List Int) (w : World) (e : Ending) (w' : World) : Prop :=
  ∃ x, e = .returned (.tuple #[.float .f32 x, .bool (canB js xs)]) ∧ Like .f32 x (if canB js xs then meanV js xs else 0) ∧ Below w.heap.size w w'
theorem meanP_yes {js : List J} {xs : List Int} {w w1 w' : World} {n : Nat} {a b : Nat} (hc : canB js xs = true) (hn : js.length = n) (ha : a = FloatKind.f32.nearest (flowK js (endsL js xs) n)) (hb : b = FloatKind.f32.nearest (n : Int)) (hw : Below w.heap.size w w') :
    MeanP js xs w (.returned (.tuple #[.float .f32 (fres .quo .f32 w1 a b), .bool true])) w' := by
  refine ⟨_, by rw [hc], ?_, hw⟩
  rw [if_pos hc, ha, hb]; unfold meanV; rw [hn]; exact like_fres _ _ _ _ _
theorem meanP_no {js : List J} {xs : List Int} {w w' : World} (hc : canB js xs = false) (hw : Below w.heap.size w w') : MeanP js xs w (.returned (.tuple #[.float .f32 0, .bool false])) w' := by
  refine ⟨_, by rw [hc], ?_, hw⟩
  rw [hc]; exact .refl _ _

set_option maxHeartbeats 4000000 in
set_option maxRecDepth 100000 in
theorem specMean_no (w : World) (g n c : Nat) (js : List J) (hn : js.length = n) (hcap : n ≤ c) (hm : n ≤ 1048576) (hj : JRd w g 0 js) (hg : g < w.heap.size) (g' n' c' : Nat) (xs : List Int) (hn' : xs.length = n') (hcap' : n' ≤ c') (hm' : n' ≤ 1048576) (hx : Rd w g' 0 xs) (hg' : g' < w.heap.size) (hc : canB js xs = false) :
    Calls Try.prog 53 #[.slice (some ⟨g, 0, none⟩) n c, .slice (some ⟨g', 0, none⟩) n' c'] w (MeanP js xs w) := by
  have HN := Lib.hid hn; have HN' := Lib.hid hn'; have HJ := Lib.hid hj; have HX := Lib.hid hx; have HC := Lib.hid hc
  clear hn hn' hj hx hc
  go_enter Try.func53, Try.ntmps53
  go_wp2_with (go_at_call 106; refine (specCan_any _ g n c js HN.out hcap hm HJ.out g' n' c' xs HN'.out hcap' hm' HX.out).mono ?_; rintro e w1 ⟨rfl, hd⟩; rw [HC.out]; have hb : Below w.heap.size w w1 := hd.below; have J1 := Lib.hid (HJ.out.below hb hg); have X1 := Lib.hid (HX.out.below hb hg'))
  go_ret2
  exact meanP_no HC.out hb

set_option maxHeartbeats 4000000 in
set_option maxRecDepth 100000 in
theorem specMean_yes (w : World) (g n c : Nat) (js : List J) (hn : js.length = n) (hcap : n ≤ c) (hm : n ≤ 1048576) (hj : JRd w g 0 js) (hg : g < w.heap.size) (g' n' c' : Nat) (xs : List Int) (hn' : xs.length = n') (hcap' : n' ≤ c') (hm' : n' ≤ 1048576) (hx : Rd w g' 0 xs) (hg' : g' < w.heap.size) (hc : canB js xs = true) :
    Calls Try.prog 53 #[.slice (some ⟨g, 0, none⟩) n c, .slice (some ⟨g', 0, none⟩) n' c'] w (MeanP js xs w) := by
  have HN := Lib.hid hn; have HN' := Lib.hid hn'; have HJ := Lib.hid hj; have HX := Lib.hid hx
  obtain ⟨hjb, _, _⟩ := canB_of hc
  obtain ⟨n1, n2, hjs⟩ := jobsB_of hjb
  rw [hn] at n1 n2
  have hmem := endsL_mem hc
  have hlen := (@endsL_length js xs).trans hn
  have hends := fun w1 h1 h2 h3 h4 => l02Ends_any w1 g n c js hn h1 h2 g' n' c' xs hn' h3 h4 hc
  have HE := Lib.hid hends
  obtain ⟨es, hes⟩ : ∃ es, endsL js xs = es := ⟨_, rfl⟩
  rw [hes] at hmem hlen
  have hat : ∀ i, i < n → ∃ s t : Int, 0 ≤ s ∧ s ≤ 1000000 ∧ 0 ≤ t ∧ t ≤ 10000 ∧ eN es i = s ∧ (jN js i).rel = t ∧ ∀ wr B G, Below B w wr → g < B → Rd wr G 0 es → wr.cell? ⟨G, i, none⟩ = some (.int .i64 s) ∧ wr.cell? ⟨g, i * 4 + 1, none⟩ = some (.int .i64 t) := by
    intro i hi
    have b := hmem es[i] (List.getElem_mem _)
    have q := hjs i (by omega)
    refine ⟨es[i], js[i].rel, b.1, b.2, q.2.2.1, q.2.2.2.1, eN_eq (by omega), by rw [jN_eq (by omega)], fun wr B G hd hB hr => ?_⟩
    have c1 := hr i (by omega)
    obtain ⟨d0, d1, d2, d3⟩ := (hj.below hd hB) i (by omega)
    rw [Nat.zero_add] at c1 d1
    exact ⟨c1, d1⟩
  have hbd := @flowK_bd js es n (fun i hi => by obtain ⟨s, t, a, b, c, d, e, f, _⟩ := hat i hi; rw [e, f]; omega)
  have HA := Lib.hid hat; have HBD := Lib.hid hbd; have HES := Lib.hid hes; have HLE := Lib.hid hlen; have HC := Lib.hid hc
  clear hat hbd hes hlen hmem hjs hends hn hn' hj hx hjb hc
  go_enter Try.func53, Try.ntmps53
  go_wp2_with (first
    | (go_at_call 106; refine (specCan_any _ g n c js HN.out hcap hm HJ.out g' n' c' xs HN'.out hcap' hm' HX.out).mono ?_; rintro e w1 ⟨rfl, hd⟩; rw [HC.out]; have hb : Below w.heap.size w w1 := hd.below; have J1 := Lib.hid (HJ.out.below hb hg); have X1 := Lib.hid (HX.out.below hb hg'))
    | (go_at_call 107; refine (HE.out _ J1.out (by have := hb.size; omega) X1.out (by have := hb.size; omega)).mono ?_; rintro e w2 ⟨G, rfl, hr, hG, hb2⟩; rw [HES.out, HLE.out]; rw [HES.out] at hr; have R := Lib.hid hr; have B2 := Lib.hid (hb.trans (hb2.mono hb.size)); clear hr))
  go_loopw [7, 8] (fun s i wr => ∃ k : Nat, k ≤ n ∧ i = .int .i64 k ∧ s = .int .i64 (flowK js es k) ∧ Dr w2 wr) (fun _ i _ => n - (intOf i).toNat)
  case atStart => exact ⟨0, Nat.zero_le _, rfl, rfl, .refl _⟩
  case round =>
    obtain ⟨k, hk, rfl, rfl, hd3⟩ := hrel
    have HD := Lib.hid hd3
    by_cases hlt : k < n
    · obtain ⟨s, t, s0, s1, t0, t1, es', et, hcell⟩ := HA.out k hlt
      obtain ⟨c1, c2⟩ := hcell _ _ G (B2.out.trans hd3.below) hg (hd3.rd R.out.rd)
      obtain ⟨b0, b1⟩ := HBD.out k (by omega)
      have hs1 : flowK js es (k + 1) = flowK js es k + (s - t) := by rw [← es', ← et]; rfl
      have HS1 := Lib.hid hs1
      generalize flowK js es k = lk at *
      have x1 : IntKind.i64.wrap (s - t) = s - t := IntWalk.i64_in _ (by omega)
      have x2 : IntKind.i64.wrap (lk + (s - t)) = lk + (s - t) := IntWalk.i64_in _ (by omega)
      clear hcell es' et hs1 hd3
      go_wp2
      go_quiet (fail)
      go_wp2
      go_roundw
      case rel => exact ⟨k + 1, by omega, by go_num, by rw [HS1.out], HD.out.drewN _⟩
      case measure => simp [intOf]; omega
    · obtain rfl : k = n := by omega
      go_wp2
      go_ret2
      exact meanP_yes HC.out HN.out (by rw [HES.out]; rfl) rfl (below_drewN (B2.out.trans HD.out.below) _)

set_option maxHeartbeats 4000000 in
set_option maxRecDepth 100000 in
theorem implMean_no (w : World) (g n c : Nat) (js : List J) (hn : js.length = n) (hcap : n ≤ c) (hm : n ≤ 1048576) (hj : JRd w g 0 js) (hg : g < w.heap.size) (g' n' c' : Nat) (xs : List Int) (hn' : xs.length = n') (hcap' : n' ≤ c') (hm' : n' ≤ 1048576) (hx : Rd w g' 0 xs) (hg' : g' < w.heap.size) (hc : canB js xs = false) :
    Calls Try.prog 54 #[.slice (some ⟨g, 0, none⟩) n c, .slice (some ⟨g', 0, none⟩) n' c'] w (MeanP js xs w) := by
  have HN := Lib.hid hn; have HN' := Lib.hid hn'; have HJ := Lib.hid hj; have HX := Lib.hid hx; have HC := Lib.hid hc
  clear hn hn' hj hx hc
  go_enter Try.func54, Try.ntmps54
  go_wp2_with (go_at_call 108; refine (implOrders_any _ g n c js HN.out hm HJ.out hg g' n' c' xs HN'.out hm' HX.out hg').mono ?_; rintro e w1 ⟨rfl, hb⟩; rw [HC.out]; have J1 := Lib.hid (HJ.out.below hb hg); have X1 := Lib.hid (HX.out.below hb hg'))
  go_ret2
  exact meanP_no HC.out hb

set_option maxHeartbeats 4000000 in
set_option maxRecDepth 100000 in
theorem implMean_yes (w : World) (g n c : Nat) (js : List J) (hn : js.length = n) (hcap : n ≤ c) (hm : n ≤ 1048576) (hj : JRd w g 0 js) (hg : g < w.heap.size) (g' n' c' : Nat) (xs : List Int) (hn' : xs.length = n') (hcap' : n' ≤ c') (hm' : n' ≤ 1048576) (hx : Rd w g' 0 xs) (hg' : g' < w.heap.size) (hc : canB js xs = true) :
    Calls Try.prog 54 #[.slice (some ⟨g, 0, none⟩) n c, .slice (some ⟨g', 0, none⟩) n' c'] w (MeanP js xs w) := by
  have HN := Lib.hid hn; have HN' := Lib.hid hn'; have HJ := Lib.hid hj; have HX := Lib.hid hx
  obtain ⟨hjb, _, _⟩ := canB_of hc
  obtain ⟨n1, n2, hjs⟩ := jobsB_of hjb
  rw [hn] at n1 n2
  have hmem := endsL_mem hc
  have hlen := (@endsL_length js xs).trans hn
  have hends := fun w1 h1 h2 h3 h4 => implEnds_any w1 g n c js hn h1 h2 g' n' c' xs hn' h3 h4 hc
  have HE := Lib.hid hends
  obtain ⟨es, hes⟩ : ∃ es, endsL js xs = es := ⟨_, rfl⟩
  rw [hes] at hmem hlen
  have hat : ∀ i, i < n → ∃ s t : Int, 0 ≤ s ∧ s ≤ 1000000 ∧ 0 ≤ t ∧ t ≤ 10000 ∧ eN es i = s ∧ (jN js i).rel = t ∧ ∀ wr B G, Below B w wr → g < B → Rd wr G 0 es → wr.cell? ⟨G, i, none⟩ = some (.int .i64 s) ∧ wr.cell? ⟨g, i * 4 + 1, none⟩ = some (.int .i64 t) := by
    intro i hi
    have b := hmem es[i] (List.getElem_mem _)
    have q := hjs i (by omega)
    refine ⟨es[i], js[i].rel, b.1, b.2, q.2.2.1, q.2.2.2.1, eN_eq (by omega), by rw [jN_eq (by omega)], fun wr B G hd hB hr => ?_⟩
    have c1 := hr i (by omega)
    obtain ⟨d0, d1, d2, d3⟩ := (hj.below hd hB) i (by omega)
    rw [Nat.zero_add] at c1 d1
    exact ⟨c1, d1⟩
  have hbd := @flowK_bd js es n (fun i hi => by obtain ⟨s, t, a, b, c, d, e, f, _⟩ := hat i hi; rw [e, f]; omega)
  have HA := Lib.hid hat; have HBD := Lib.hid hbd; have HES := Lib.hid hes; have HLE := Lib.hid hlen; have HC := Lib.hid hc
  clear hat hbd hes hlen hmem hjs hends hn hn' hj hx hjb hc
  go_enter Try.func54, Try.ntmps54
  go_wp2_with (first
    | (go_at_call 108; refine (implOrders_any _ g n c js HN.out hm HJ.out hg g' n' c' xs HN'.out hm' HX.out hg').mono ?_; rintro e w1 ⟨rfl, hb⟩; rw [HC.out]; have J1 := Lib.hid (HJ.out.below hb hg); have X1 := Lib.hid (HX.out.below hb hg'))
    | (go_at_call 109; refine (HE.out _ J1.out (by have := hb.size; omega) X1.out (by have := hb.size; omega)).mono ?_; rintro e w2 ⟨G, rfl, hr, hG, hb2⟩; rw [HES.out, HLE.out]; rw [HES.out] at hr; have R := Lib.hid hr; have B2 := Lib.hid (hb.trans (hb2.mono hb.size)); clear hr))
  go_loopw [6, 7, 8, 17] (fun s _ _ i wr => ∃ k : Nat, k ≤ n ∧ i = .int .i64 k ∧ s = .int .i64 (flowK js es k) ∧ Dr w2 wr) (fun _ _ _ i _ => n - (intOf i).toNat)
  case atStart => exact ⟨0, Nat.zero_le _, rfl, rfl, .refl _⟩
  case round =>
    obtain ⟨k, hk, rfl, rfl, hd3⟩ := hrel
    have HD := Lib.hid hd3
    by_cases hlt : k < n
    · obtain ⟨s, t, s0, s1, t0, t1, es', et, hcell⟩ := HA.out k hlt
      obtain ⟨c1, c2⟩ := hcell _ _ G (B2.out.trans hd3.below) hg (hd3.rd R.out.rd)
      obtain ⟨b0, b1⟩ := HBD.out k (by omega)
      have hs1 : flowK js es (k + 1) = flowK js es k + (s - t) := by rw [← es', ← et]; rfl
      have HS1 := Lib.hid hs1
      generalize flowK js es k = lk at *
      have x1 : IntKind.i64.wrap (s - t) = s - t := IntWalk.i64_in _ (by omega)
      have x2 : IntKind.i64.wrap (lk + (s - t)) = lk + (s - t) := IntWalk.i64_in _ (by omega)
      clear hcell es' et hs1 hd3
      go_wp2
      go_roundw
      case rel => exact ⟨k + 1, by omega, by go_num, by rw [HS1.out], HD.out⟩
      case measure => simp [intOf]; omega
    · obtain rfl : k = n := by omega
      go_wp2
      go_ret2
      exact meanP_yes HC.out HN.out (by rw [HES.out]; rfl) rfl (below_drewN (B2.out.trans HD.out.below) _)
end Go.Proofs.Ytncmhinpjkkfkaa
