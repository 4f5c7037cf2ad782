/-
  Slices of 32-bit floats: opened, copied, compared with themselves; sums. Conditions: none.
-/
import Derived.Test.YtbphigmpcjodkaaRows
import Derived.Test.YtbphigmpcjodkaaMem
import Derived.Test.YtbphigmpcjodkaaFlo
import Derived.Test.YtbphigmpcjodkaaVal
import Derived.OpenShut
import Derived.Deep.Slices
import Derived.ProofKit
import Derived.BigQuiet
import Derived.Deep.QuietTactic
import Derived.IntWalk
import Derived.Deep.RegionWith
set_option linter.unusedVariables false
set_option linter.unusedSimpArgs false
namespace Go.Proofs.Ytbphigmpcjodkaa
open Go Go.RowKit Go.ChangeShapes Go.WideShapes Flo Val

theorem run_store_float (P : Program) (w : World) (a : Addr) (m : Mode) (k : FloatKind) (x : Nat) : (store a (.float k x) m).run P w = stored P w a (.float k x) m := run_store P w a _ m rfl
attribute [local go_sem] run_store_float
attribute [local go_sem] run_fadd run_fsub run_fmul run_fquo run_fconv

theorem like_conv {w : World} {x y : Nat} (h : Like .f32 x y) : Like .f64 (cres .f32 .f64 w x) (fconv .f32 .f64 y) :=
  (like_cres (conv_open x)).trans (fconv_like h)
theorem like_conv2 {w w' : World} {x y : Nat} (h : Like .f32 x y) : Like .f64 (cres .f32 .f64 w x) (cres .f32 .f64 w' y) :=
  (like_conv h).trans (like_cres (conv_open y)).symm
theorem nan_of_like {k : FloatKind} {x y : Nat} (h : Like k x y) : isNaN k x = isNaN k y := by
  rcases h with rfl | ⟨h1, h2⟩
  · rfl
  · rw [h1, h2]

theorem sameFloat_like (a b : Nat) (w : World) (h : Like .f64 a b) : Calls Try.prog 17 #[.float .f64 a, .float .f64 b] w fun e w' => e = .returned (.bool true) ∧ Dr w w' := by
  have e1 := order_self .f64 a
  have e2 := order_self .f64 b
  by_cases hn : isNaN .f64 a = true
  · have hn2 : isNaN .f64 b = true := by rw [← nan_of_like h]; exact hn
    rw [if_pos hn] at e1; rw [if_pos hn2] at e2
    clear h hn hn2
    go_enter Try.func17, Try.ntmps17
    go_wp2
    go_ret
    exact ⟨rfl, .refl _⟩
  · obtain rfl : a = b := by
      rcases h with h | h
      · exact h
      · exact absurd h.1 hn
    rw [if_neg hn] at e1
    clear h hn e2
    by_cases hz : FloatKind.f64.format.order a 0 = some .eq
    · have hd : ∀ w, FloatKind.f64.format.order (fres .quo .f64 w 4607182418800017408 a) 0 = FloatKind.f64.format.order (fop .quo .f64 4607182418800017408 a) 0 := fun w => order_like (like_fres _ _ _ _ _) (.refl _ _)
      go_enter Try.func17, Try.ntmps17
      go_wp2
      go_ret
      exact ⟨ret_bool (by simp), .one _ _⟩
    · have hz2 : (FloatKind.f64.format.order a 0 == some .eq) = false := by simpa using hz
      clear hz
      go_enter Try.func17, Try.ntmps17
      go_wp2
      go_ret
      exact ⟨ret_bool (by simp [e1]), .refl _⟩

/-- A slice of floats that came in. -/
def IsFl (w : World) (a : Option Addr) (len : Nat) (zs : List Nat) : Prop :=
  zs.length = len ∧ (len = 0 ∨ ∃ b off, a = some ⟨b, off, none⟩ ∧ ∀ i (h : i < zs.length), w.cell? ⟨b, off + i, none⟩ = some (.float .f32 zs[i]))

theorem IsFl.below {w w' : World} {a : Option Addr} {len : Nat} {zs : List Nat} (h : IsFl w a len zs) (hb : Below w.heap.size w w') : IsFl w' a len zs := by
  obtain ⟨h1, h2⟩ := h
  refine ⟨h1, ?_⟩
  rcases h2 with h2 | ⟨b, off, rfl, h2⟩
  · exact .inl h2
  · exact .inr ⟨b, off, rfl, fun i hi => by rw [hb.cell (block_lt_of_cell (h2 i hi))]; exact h2 i hi⟩

theorem addr_add (b off j : Nat) : (⟨b, off, none⟩ : Addr).add j = ⟨b, off + j, none⟩ := by
  unfold Addr.add
  by_cases h : j = 0
  · subst h; simp
  · simp [h]

theorem Try.cells23 : Try.prog.cellsOf 23 = 1 := by kernel_rfl
theorem Try.info23 : (Try.prog.info? 23).map (fun i => (i.zero, i.size, i.bytes)) = some (some (.float .f32 0), 1, 4) := by kernel_rfl

theorem trod_float {H : Type} {enc : TypeId × Value → H} {W : World} {n : Nat} {cs : List Value} {x : DataW H × List MemPlace}
    (h : DataW.trod enc Try.prog W 0 (fun _ => true) true n 23 cs = some x) : ∃ v, cs = [.float .f32 v] := by
  cases n with
  | zero => simp [DataW.trod] at h
  | succ n =>
    unfold DataW.trod at h
    simp only [Try.underlying23] at h
    split at h <;> simp_all

theorem open_float32 {H : Type} {enc : TypeId × Value → H} {W : World} {a : Option Addr} {len cap : Nat} {d : DataW H} {p : List MemPlace}
    (h : DataW.Trod enc Try.prog W 0 (fun _ => true) true 22 (.slice a len cap) d p) : ∃ zs, IsFl W a len zs ∧ len ≤ maxLen := by
  obtain ⟨fuel, hf⟩ := h
  rcases Go.Deep.open_slice Try.underlying22 hf with ⟨hcs, _⟩ | ⟨x, l, c, m, n, D, Pl, hcs, _, hl, hmx, hmm, _, hi⟩
  · simp [Value.cells] at hcs
    obtain ⟨rfl, rfl, rfl⟩ := hcs
    exact ⟨[], ⟨rfl, .inl rfl⟩, by decide⟩
  · simp [Value.cells] at hcs
    obtain ⟨rfl, rfl, rfl⟩ := hcs
    simp only [if_true] at hmm
    subst hmm
    have key : ∀ i, i < len → ∃ v, W.cell? (x.add i) = some (.float .f32 v) := by
      intro i hil
      obtain ⟨cs', hc, ht⟩ := hi i (by omega)
      rw [Try.cells23] at hc
      obtain ⟨v, rfl⟩ := trod_float ht
      obtain ⟨_, hcl, hat⟩ := World.cells?_some hc
      refine ⟨v, ?_⟩
      have := hat 0 (by simp)
      simpa [Go.Deep.add_add] using this
    refine ⟨(List.range len).map fun i => if h : i < len then (key i h).choose else default, ⟨by simp, ?_⟩, by omega⟩
    by_cases h0 : len = 0
    · exact .inl h0
    · obtain ⟨b, off, spot⟩ := x
      have hspot : spot = none := by
        have := (key 0 (by omega)).choose_spec
        simpa [Addr.add] using World.cell?_spot this
      subst hspot
      refine .inr ⟨b, off, rfl, fun i hi' => ?_⟩
      have hil : i < len := by simpa using hi'
      have hk := (key i hil).choose_spec
      have e : ((List.range len).map fun i => if h : i < len then (key i h).choose else default)[i] = (key i hil).choose := by
        simp only [List.getElem_map, List.getElem_range, dif_pos hil]
      rw [e, ← addr_add]
      exact hk

/-- The cells of a list of floats, from place 'o' of block 'g' on. -/
def Fd (w : World) (g o : Nat) (xs : List Nat) : Prop := ∀ j (h : j < xs.length), w.cell? ⟨g, o + j, none⟩ = some (.float .f32 xs[j])
theorem Fd.below {B : Nat} {w w' : World} {g o : Nat} {xs : List Nat} (h : Fd w g o xs) (hb : Below B w w') (hg : g < B) : Fd w' g o xs :=
  fun j hj => (hb.cell (by exact hg)).trans (h j hj)
theorem Dr.fd {w w' : World} {g o : Nat} {xs : List Nat} (h : Dr w w') (hr : Fd w g o xs) : Fd w' g o xs := by
  obtain ⟨n, rfl⟩ := h; exact hr
def FRow (w : World) (g : Nat) (xs : List Nat) : Prop := Row w g 23 xs.length (xs.map (Value.float .f32))
theorem FRow.lt {w : World} {g : Nat} {xs : List Nat} (h : FRow w g xs) : g < w.heap.size := Row.lt h
theorem FRow.below {B : Nat} {w w' : World} {g : Nat} {xs : List Nat} (h : FRow w g xs) (hb : Below B w w') (hg : g < B) : FRow w' g xs := Row.below h hb hg
theorem FRow.rd {w : World} {g : Nat} {xs : List Nat} (h : FRow w g xs) : Fd w g 0 xs := fun j hj => by
  rw [Nat.zero_add, Row.cell h j (by simpa using hj)]; simp

/-- A list of floats in a new block. -/
def Made (w : World) (xs : List Nat) (e : Ending) (w' : World) : Prop :=
  ∃ g, e = .returned (.slice (some ⟨g, 0, none⟩) xs.length xs.length) ∧ FRow w' g xs ∧ w.heap.size ≤ g ∧ Below w.heap.size w w'

/-- The copy when k elements are copied. -/
def part (zs : List Nat) (len k : Nat) : List Value := (zs.take k ++ List.replicate (len - k) 0).map (Value.float .f32)

theorem part_zero (zs : List Nat) (len : Nat) : part zs len 0 = List.replicate len (.float .f32 0) := by simp [part]
theorem part_all (zs : List Nat) (len : Nat) (h : zs.length = len) : part zs len len = zs.map (Value.float .f32) := by simp [part, ← h]
theorem part_len (zs : List Nat) (len k : Nat) (h : k ≤ len) (hl : len ≤ zs.length) : (part zs len k).length = len := by simp [part]; omega
theorem part_set (zs : List Nat) (len k : Nat) (h : k < len) (hl : len ≤ zs.length) : (part zs len k).set k (.float .f32 zs[k]) = part zs len (k + 1) := by
  have hk : (zs.take k).length = k := by simp; omega
  unfold part
  rw [show len - k = (len - (k + 1)) + 1 from by omega, List.replicate_succ, List.map_append, List.set_append_right _ _ (by simp; omega)]
  simp only [List.length_map, hk, Nat.sub_self, List.map_cons, List.set_cons_zero]
  rw [List.take_succ_eq_append_getElem (by omega), List.map_append, List.map_append, List.append_assoc]
  rfl

set_option maxHeartbeats 1000000 in
theorem toFloat32S_any (a : Option Addr) (len cap : Nat) (zs : List Nat) (w : World) (hr : IsFl w a len zs) (hm : len ≤ 1048576) :
    Calls Try.prog 15 #[.slice a len cap] w (Made w zs) := by
  obtain ⟨hl, hr⟩ := hr
  have hlz : len ≤ zs.length := by omega
  have hfin : ∀ g w', Row w' g 23 len (part zs len len) → w.heap.size ≤ g → Below w.heap.size w w' → Made w zs (.returned (.slice (some ⟨g, 0, none⟩) len len)) w' := by
    intro g w' h1 h2 h3
    refine ⟨g, by rw [hl], ?_, h2, h3⟩
    unfold FRow
    rw [hl, ← part_all zs len hl]; exact h1
  have HF := Lib.hid hfin; have HL := Lib.hid hl; clear hfin hl
  by_cases h0 : len = 0
  · subst h0
    clear hr
    go_enter Try.func15, Try.ntmps15
    go_wp2_with (at_make; refine wp_make rfl (.tmp 6) 22 rfl 23 (.float .f32 0) 4 Try.underlying22 Try.info23 rfl 0 .i64 _ rfl rfl (by omega) (by decide) ?_; intro w1 hrow hbel)
    refine wp_loop_rounds 1 ?_; rw [rounds_succ]
    go_wp2
    go_ret
    exact HF.out _ _ (by rw [part_zero]; exact hrow) (Nat.le_refl _) hbel
  · obtain ⟨b, off, rfl, hc⟩ : ∃ b off, a = some ⟨b, off, none⟩ ∧ ∀ j (h : j < zs.length), w.cell? ⟨b, off + j, none⟩ = some (.float .f32 zs[j]) := by
      rcases hr with h | h
      · omega
      · exact h
    have HC := Lib.hid hc; clear hc hr
    go_enter Try.func15, Try.ntmps15
    go_wp2_with (at_make; refine wp_make rfl (.tmp 6) 22 rfl 23 (.float .f32 0) 4 Try.underlying22 Try.info23 rfl len .i64 _ rfl rfl (by omega) (by unfold maxLen; omega) ?_; intro w1 hrow hbel)
    have HLT := hrow.lt
    rw [← part_zero zs] at hrow
    go_loopw [4] (fun i wr => ∃ k : Nat, k ≤ len ∧ i = .int .i64 k ∧ Row wr w.heap.size 23 len (part zs len k) ∧ Below w.heap.size w wr) (fun i _ => len - (intOf i).toNat)
    case atStart => exact ⟨0, Nat.zero_le _, rfl, hrow, hbel⟩
    case round =>
      obtain ⟨k, hk, rfl, hrk, hbk⟩ := hrel
      have HR := Lib.hid hrk; have HB := Lib.hid hbk
      by_cases hlt : k < len
      · have hcell : wr.cell? ⟨b, off + k, none⟩ = some (.float .f32 zs[k]) := by
          have h1 := HC.out k (by omega)
          rw [hbk.cell (block_lt_of_cell h1)]; exact h1
        have hold := hrk.cell k (by rw [part_len zs len k hk hlz]; exact hlt)
        have hfree := hrk.free k
        have hset := hrk.set k (.float .f32 zs[k])
        rw [part_set zs len k hlt hlz] at hset
        have HS := Lib.hid hset
        clear hrk hbk hset hrow hbel
        go_wp2
        go_roundw
        case rel => exact ⟨k + 1, by omega, by go_num, HS.out, HB.out.setCell (Nat.le_refl _) _⟩
        case measure => simp [intOf]; omega
      · obtain rfl : k = len := by omega
        clear hrk hbk hrow hbel
        go_wp2
        go_ret
        exact HF.out _ _ HR.out (Nat.le_refl _) HB.out

set_option maxHeartbeats 1000000 in
theorem eqFloat32S_any (g o g' o' : Nat) (n c c' : Nat) (xs : List Nat) (w : World) (hn : xs.length = n) (hx : Fd w g o xs) (hy : Fd w g' o' xs) (hm : n ≤ 1048576) :
    Calls Try.prog 18 #[.slice (some ⟨g, o, none⟩) n c, .slice (some ⟨g', o', none⟩) n c'] w fun e w' => e = .returned (.bool true) ∧ Dr w w' := by
  have HN := Lib.hid hn
  have HX := Lib.hid hx; have HY := Lib.hid hy
  clear hn hx hy
  go_enter Try.func18, Try.ntmps18
  go_wp2
  go_loopw [5] (fun i wr => ∃ k : Nat, k ≤ n ∧ i = .int .i64 k ∧ Dr w wr) (fun i _ => n - (intOf i).toNat)
  case atStart => exact ⟨0, Nat.zero_le _, rfl, .refl _⟩
  case round =>
    obtain ⟨k, hk, rfl, hd⟩ := hrel
    by_cases hlt : k < n
    · have hkx : k < xs.length := by have := HN.out; omega
      have c1 := hd.fd HX.out k hkx
      have c2 := hd.fd HY.out k hkx
      have HD := Lib.hid hd
      generalize xs[k] = x at *
      clear hd
      go_wp2
      go_region_with (go_at_call 17; refine (sameFloat_like _ _ _ (like_conv2 (.refl _ _))).mono ?_; rintro e w' ⟨rfl, nq, rfl⟩)
      all_goals
        go_wp2
        go_roundw
        case rel => exact ⟨k + 1, by omega, by go_num, HD.out.drewN _⟩
        case measure => simp [intOf]; omega
    · obtain rfl : k = n := by omega
      go_wp2
      go_ret
      exact ⟨rfl, hd⟩

/-- The sum of the first k. -/
def sumF (xs : List Nat) : Nat → Nat
  | 0 => 0
  | k + 1 => fop .add .f32 (sumF xs k) (xs.getD k 0)
def dotF (xs ys : List Nat) : Nat → Nat
  | 0 => 0
  | k + 1 => fop .add .f32 (dotF xs ys k) (fop .mul .f32 (xs.getD k 0) (ys.getD k 0))
def LikeH (k : FloatKind) (x y : Nat) : Prop := Like k x y

set_option maxHeartbeats 1000000 in
set_option maxRecDepth 100000 in
theorem l01Sum_any (g c n : Nat) (xs : List Nat) (w : World) (hn : xs.length = n) (hx : Fd w g 0 xs) (hm : n ≤ 1048576) :
    Calls Try.prog 46 #[.slice (some ⟨g, 0, none⟩) n c] w fun e w' => ∃ x, e = .returned (.float .f32 x) ∧ Like .f32 x (sumF xs n) ∧ Dr w w' := by
  have HN := Lib.hid hn; have HX := Lib.hid hx
  skip
  clear hn hx
  go_enter Try.func46, Try.ntmps46
  go_wp2
  go_loopw [3, 4] (fun s i wr => ∃ (k x : Nat), k ≤ n ∧ i = .int .i64 k ∧ s = .float .f32 x ∧ LikeH .f32 x (sumF xs k) ∧ Dr w wr) (fun _ i _ => n - (intOf i).toNat)
  case atStart => exact ⟨0, 0, Nat.zero_le _, rfl, rfl, .refl _ _, .refl _⟩
  case round =>
    obtain ⟨k, x, hk, rfl, rfl, hs, hd⟩ := hrel
    have HS := Lib.hid hs
    clear hs
    by_cases hlt : k < n
    · have hkx : k < xs.length := by have := HN.out; omega
      have c1 := hd.fd HX.out k hkx
      have e1 : xs[k] = xs.getD k 0 := by rw [List.getD_eq_getElem?_getD, List.getElem?_eq_getElem hkx]; rfl
      rw [Nat.zero_add, e1] at c1
      skip
      skip
      skip
      skip
      have hst : sumF xs (k + 1) = fop .add .f32 (sumF xs k) (xs.getD k 0) := rfl
      have HD := Lib.hid hd; have HST := Lib.hid hst
      clear hd e1 hst
      generalize xs.getD k 0 = y at *
      skip
      go_wp2
      all_goals
        try go_wp2
        go_roundw
        case rel => exact ⟨k + 1, _, by omega, by go_num, rfl, by rw [HST.out]; exact fres_like HS.out (.refl _ _), HD.out.drewN _⟩
        case measure => simp [intOf]; omega
    · obtain rfl : k = n := by omega
      go_wp2
      go_ret
      exact ⟨_, rfl, HS.out, hd⟩

set_option maxHeartbeats 1000000 in
set_option maxRecDepth 100000 in
theorem implSum_yes (g c n : Nat) (xs : List Nat) (w : World) (hn : xs.length = n) (hx : Fd w g 0 xs) (hm : n ≤ 1048576) (h256 : n ≤ 256) :
    Calls Try.prog 20 #[.slice (some ⟨g, 0, none⟩) n c] w fun e w' => ∃ x, e = .returned (.tuple #[.float .f32 x, .bool true]) ∧ Like .f32 x (sumF xs n) ∧ Dr w w' := by
  have HN := Lib.hid hn; have HX := Lib.hid hx
  skip
  clear hn hx
  go_enter Try.func20, Try.ntmps20
  go_wp2
  go_loopw [4, 6, 12] (fun s _ i wr => ∃ (k x : Nat), k ≤ n ∧ i = .int .i64 k ∧ s = .float .f32 x ∧ LikeH .f32 x (sumF xs k) ∧ Dr w wr) (fun _ _ i _ => n - (intOf i).toNat)
  case atStart => exact ⟨0, 0, Nat.zero_le _, rfl, rfl, .refl _ _, .refl _⟩
  case round =>
    obtain ⟨k, x, hk, rfl, rfl, hs, hd⟩ := hrel
    have HS := Lib.hid hs
    clear hs
    by_cases hlt : k < n
    · have hkx : k < xs.length := by have := HN.out; omega
      have c1 := hd.fd HX.out k hkx
      have e1 : xs[k] = xs.getD k 0 := by rw [List.getD_eq_getElem?_getD, List.getElem?_eq_getElem hkx]; rfl
      rw [Nat.zero_add, e1] at c1
      skip
      skip
      skip
      skip
      have hst : sumF xs (k + 1) = fop .add .f32 (sumF xs k) (xs.getD k 0) := rfl
      have HD := Lib.hid hd; have HST := Lib.hid hst
      clear hd e1 hst
      generalize xs.getD k 0 = y at *
      skip
      go_wp2
      all_goals
        try go_wp2
        go_roundw
        case rel => exact ⟨k + 1, _, by omega, by go_num, rfl, by rw [HST.out]; exact fres_like HS.out (.refl _ _), HD.out.drewN _⟩
        case measure => simp [intOf]; omega
    · obtain rfl : k = n := by omega
      go_wp2
      go_ret2
      exact ⟨_, rfl, HS.out, hd⟩

set_option maxHeartbeats 1000000 in
set_option maxRecDepth 100000 in
theorem l01Dot_any (g c n : Nat) (xs : List Nat) (w : World) (hn : xs.length = n) (hx : Fd w g 0 xs) (g2 c2 : Nat) (ys : List Nat) (hn2 : ys.length = n) (hy : Fd w g2 0 ys) (hm : n ≤ 1048576) :
    Calls Try.prog 45 #[.slice (some ⟨g, 0, none⟩) n c, .slice (some ⟨g2, 0, none⟩) n c2] w fun e w' => ∃ x, e = .returned (.float .f32 x) ∧ Like .f32 x (dotF xs ys n) ∧ Dr w w' := by
  have HN := Lib.hid hn; have HX := Lib.hid hx
  have HN2 := Lib.hid hn2; have HY := Lib.hid hy
  clear hn2 hy
  clear hn hx
  go_enter Try.func45, Try.ntmps45
  go_wp2
  go_loopw [5, 6] (fun s i wr => ∃ (k x : Nat), k ≤ n ∧ i = .int .i64 k ∧ s = .float .f32 x ∧ LikeH .f32 x (dotF xs ys k) ∧ Dr w wr) (fun _ i _ => n - (intOf i).toNat)
  case atStart => exact ⟨0, 0, Nat.zero_le _, rfl, rfl, .refl _ _, .refl _⟩
  case round =>
    obtain ⟨k, x, hk, rfl, rfl, hs, hd⟩ := hrel
    have HS := Lib.hid hs
    clear hs
    by_cases hlt : k < n
    · have hkx : k < xs.length := by have := HN.out; omega
      have c1 := hd.fd HX.out k hkx
      have e1 : xs[k] = xs.getD k 0 := by rw [List.getD_eq_getElem?_getD, List.getElem?_eq_getElem hkx]; rfl
      rw [Nat.zero_add, e1] at c1
      have hky : k < ys.length := by have := HN2.out; omega
      have c2 := hd.fd HY.out k hky
      have e2 : ys[k] = ys.getD k 0 := by rw [List.getD_eq_getElem?_getD, List.getElem?_eq_getElem hky]; rfl
      rw [Nat.zero_add, e2] at c2
      have hst : dotF xs ys (k + 1) = fop .add .f32 (dotF xs ys k) (fop .mul .f32 (xs.getD k 0) (ys.getD k 0)) := rfl
      have HD := Lib.hid hd; have HST := Lib.hid hst
      clear hd e1 hst e2
      generalize xs.getD k 0 = y at *
      generalize ys.getD k 0 = z at *
      go_wp2
      go_region
      all_goals
        try go_wp2
        go_roundw
        case rel => exact ⟨k + 1, _, by omega, by go_num, rfl, by rw [HST.out]; exact fres_like HS.out (like_fres _ _ _ _ _), HD.out.drewN _⟩
        case measure => simp [intOf]; omega
    · obtain rfl : k = n := by omega
      go_wp2
      go_ret
      exact ⟨_, rfl, HS.out, hd⟩

set_option maxHeartbeats 1000000 in
set_option maxRecDepth 100000 in
theorem implDot_yes (g c n : Nat) (xs : List Nat) (w : World) (hn : xs.length = n) (hx : Fd w g 0 xs) (g2 c2 : Nat) (ys : List Nat) (hn2 : ys.length = n) (hy : Fd w g2 0 ys) (hm : n ≤ 1048576) (h256 : n ≤ 256) :
    Calls Try.prog 16 #[.slice (some ⟨g, 0, none⟩) n c, .slice (some ⟨g2, 0, none⟩) n c2] w fun e w' => ∃ x, e = .returned (.tuple #[.float .f32 x, .bool true]) ∧ Like .f32 x (dotF xs ys n) ∧ Dr w w' := by
  have HN := Lib.hid hn; have HX := Lib.hid hx
  have HN2 := Lib.hid hn2; have HY := Lib.hid hy
  clear hn2 hy
  clear hn hx
  go_enter Try.func16, Try.ntmps16
  go_wp2
  go_loopw [6, 7, 20] (fun s _ i wr => ∃ (k x : Nat), k ≤ n ∧ i = .int .i64 k ∧ s = .float .f32 x ∧ LikeH .f32 x (dotF xs ys k) ∧ Dr w wr) (fun _ _ i _ => n - (intOf i).toNat)
  case atStart => exact ⟨0, 0, Nat.zero_le _, rfl, rfl, .refl _ _, .refl _⟩
  case round =>
    obtain ⟨k, x, hk, rfl, rfl, hs, hd⟩ := hrel
    have HS := Lib.hid hs
    clear hs
    by_cases hlt : k < n
    · have hkx : k < xs.length := by have := HN.out; omega
      have c1 := hd.fd HX.out k hkx
      have e1 : xs[k] = xs.getD k 0 := by rw [List.getD_eq_getElem?_getD, List.getElem?_eq_getElem hkx]; rfl
      rw [Nat.zero_add, e1] at c1
      have hky : k < ys.length := by have := HN2.out; omega
      have c2 := hd.fd HY.out k hky
      have e2 : ys[k] = ys.getD k 0 := by rw [List.getD_eq_getElem?_getD, List.getElem?_eq_getElem hky]; rfl
      rw [Nat.zero_add, e2] at c2
      have hst : dotF xs ys (k + 1) = fop .add .f32 (dotF xs ys k) (fop .mul .f32 (xs.getD k 0) (ys.getD k 0)) := rfl
      have HD := Lib.hid hd; have HST := Lib.hid hst
      clear hd e1 hst e2
      generalize xs.getD k 0 = y at *
      generalize ys.getD k 0 = z at *
      go_wp2
      go_region
      all_goals
        try go_wp2
        go_roundw
        case rel => exact ⟨k + 1, _, by omega, by go_num, rfl, by rw [HST.out]; exact fres_like HS.out (like_fres _ _ _ _ _), HD.out.drewN _⟩
        case measure => simp [intOf]; omega
    · obtain rfl : k = n := by omega
      go_wp2
      go_ret2
      exact ⟨_, rfl, HS.out, hd⟩
end Go.Proofs.Ytbphigmpcjodkaa
