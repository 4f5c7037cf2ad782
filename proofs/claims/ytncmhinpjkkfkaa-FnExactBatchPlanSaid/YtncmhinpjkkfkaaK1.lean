/-
  Walks: jobs as values; copies and comparisons of lists of jobs. Conditions: none.
-/
import Derived.Test.YtncmhinpjkkfkaaJ5
import Derived.Laws.ByValue
import Derived.Laws.StructEq
set_option linter.unusedVariables false
set_option linter.unusedSimpArgs false
namespace Go.Proofs.Ytncmhinpjkkfkaa
open Go Go.RowKit

/-- A job. -/
structure J where
  time : Int
  rel : Int
  due : Int
  wt : Int
  deriving DecidableEq

def J.cells (j : J) : List Value := [.int .i64 j.time, .int .i64 j.rel, .int .i64 j.due, .int .i64 j.wt]

theorem toJob_any (a b c d : Int) (w : World) : Calls Try.prog 74 #[.agg #[.int .i64 a, .int .i64 b, .int .i64 c, .int .i64 d]] w fun e w' => e = .returned (.agg #[.int .i64 a, .int .i64 b, .int .i64 c, .int .i64 d]) ∧ Below w.heap.size w w' := by
  go_enter Try.func74, Try.ntmps74
  go_wp2
  exact bodyPost_ret (v := .agg #[.int .i64 a, .int .i64 b, .int .i64 c, .int .i64 d]) (by simp [results, Try.results74, go_sem]) rfl ⟨rfl, ((((Below.refl _ _).alloc (Nat.le_refl _) _).alloc (by simp) _).alloc (by simp; omega) _)⟩

theorem eqJob_any (a b c d a' b' c' d' : Int) (w : World) : Calls Try.prog 76 #[.agg #[.int .i64 a, .int .i64 b, .int .i64 c, .int .i64 d], .agg #[.int .i64 a', .int .i64 b', .int .i64 c', .int .i64 d']] w fun e w' => e = .returned (.bool ((a == a') && (b == b') && (c == c') && (d == d'))) ∧ Below w.heap.size w w' := by
  go_enter Try.func76, Try.ntmps76
  go_wp2
  all_goals
    go_ret
    exact ⟨ret_bool (by simp_all), ((Below.refl _ _).alloc (Nat.le_refl _) _).alloc (by simp) _⟩

def szV (l : Int) (n : Nat) : Int := if l < n then -1 else l - n
theorem szJobS_any (a : Option Addr) (n c : Nat) (l : Int) (w : World) (hn : n ≤ 9223372036854775807) (h0 : 0 ≤ l) (h1 : l ≤ 1048576) : Calls Try.prog 26 #[.slice a n c, .int .i64 l] w fun e w' => e = .returned (.int .i64 (szV l n)) ∧ w = w' := by
  by_cases h : l < n
  · have e : szV l n = -1 := by rw [szV, if_pos h]
    have E := Lib.hid e; clear e
    go_enter Try.func26, Try.ntmps26
    go_wp2
    go_ret
    exact ⟨ret_int E.out.symm, rfl⟩
  · have e : szV l n = l - n := by rw [szV, if_neg h]
    have E := Lib.hid e; clear e
    go_enter Try.func26, Try.ntmps26
    go_wp2
    go_ret
    exact ⟨ret_int E.out.symm, rfl⟩

/-- make([]T, n), T of several cells -/
theorem wp_makeN {P : Program} {w : World} {ops : Array Oper} {rest : List Oper} {o : Oper} {a : Act} {Q : Exit → Act → World → Prop}
    (hg : o.guard = none) (l : Operand) (t : TypeId) (hop : o.op = Op.makeSlice t l l) (e : TypeId) (z : Value) (size by' : Nat)
    (h1 : P.underlying t = some (.slice e)) (h2 : (P.info? e).map (fun i => (i.zero, i.size, i.bytes)) = some (some z, size, by')) (zs : List Value) (n : Nat) (hz : (madeCells z.cells (n * size)).toList = zs)
    (kl : IntKind) (L : Int) (hl : a.eval l = .int kl L) (hL : L = (n : Int)) (hb : by' * n ≤ 281474976710656) (hn : n ≤ maxLen) (hn2 : n * size ≤ maxLen)
    (hK : ∀ w', Row w' w.heap.size e (n * size) zs → zs.length = n * size → Below w.heap.size w w' → wpList P ops Q rest (a.put o.dst (.slice (some ⟨w.heap.size, 0, none⟩) n n)) w') :
    wpList P ops Q (o :: rest) a w := by
  obtain ⟨i0, hi, hz0, hz1, hz2⟩ := info_parts h2
  refine wpList_make_full w hg l l t hop w.heap.size e i0 z size h1 hi hz0 hz1 kl kl L L n hl hl hL hL (by rw [hz2]; exact hb) hn (Nat.le_refl _) fun w' h hgr => ?_
  rw [hz] at h
  obtain ⟨k1, k2⟩ := h
  rcases k2 with ⟨h0, _⟩ | ⟨g', cap, cur, hv, hbb, hh, hnn, hm, hs, ht⟩
  · cases h0
  · cases hv
    exact hK w' ⟨cur, hh, hs, by omega, hn2, by rw [k1]; exact ht⟩ k1 (below_of_grown hgr)

theorem Try.info67 : (Try.prog.info? 67).map (fun i => (i.zero, i.size, i.bytes)) = some (some (.agg #[.int .i64 0, .int .i64 0, .int .i64 0, .int .i64 0]), 4, 32) := by kernel_rfl

instance : Inhabited J := ⟨⟨0, 0, 0, 0⟩⟩
def fld (j : J) : Nat → Value
  | 0 => .int .i64 j.time
  | 1 => .int .i64 j.rel
  | 2 => .int .i64 j.due
  | _ => .int .i64 j.wt

/-- The cells of a list of jobs from place o of block g on. -/
def JRd (w : World) (g o : Nat) (js : List J) : Prop := ∀ i (h : i < js.length), w.cell? ⟨g, o + i * 4, none⟩ = some (.int .i64 js[i].time) ∧ w.cell? ⟨g, o + i * 4 + 1, none⟩ = some (.int .i64 js[i].rel) ∧
  w.cell? ⟨g, o + i * 4 + 2, none⟩ = some (.int .i64 js[i].due) ∧ w.cell? ⟨g, o + i * 4 + 3, none⟩ = some (.int .i64 js[i].wt)

theorem JRd.below {B : Nat} {w w' : World} {g o : Nat} {js : List J} (h : JRd w g o js) (hb : Below B w w') (hg : g < B) : JRd w' g o js := fun i hi => by
  obtain ⟨a, b, c, d⟩ := h i hi
  exact ⟨(hb.cell (by exact hg)).trans a, (hb.cell (by exact hg)).trans b, (hb.cell (by exact hg)).trans c, (hb.cell (by exact hg)).trans d⟩
theorem Dr.jrd {w w' : World} {g o : Nat} {js : List J} (h : Dr w w') (hr : JRd w g o js) : JRd w' g o js := by
  obtain ⟨n, rfl⟩ := h; exact hr

/-- A slice of jobs that came in. -/
def IsJobs (w : World) (a : Option Addr) (len : Nat) (js : List J) : Prop :=
  js.length = len ∧ (len = 0 ∨ ∃ b off, a = some ⟨b, off, none⟩ ∧ JRd w b off js)

theorem IsJobs.below {w w' : World} {a : Option Addr} {len : Nat} {js : List J} (h : IsJobs w a len js) (hb : Below w.heap.size w w') : IsJobs w' a len js := by
  obtain ⟨h1, h2⟩ := h
  refine ⟨h1, ?_⟩
  rcases h2 with h2 | ⟨b, off, rfl, h2⟩
  · exact .inl h2
  · by_cases h0 : len = 0
    · exact .inl h0
    · have hl := block_lt_of_cell (h2 0 (by omega)).1
      exact .inr ⟨b, off, rfl, h2.below hb hl⟩

/-- The first k jobs of n, the others zero: the cells. -/
def jpart (js : List J) (n k : Nat) : List Value := (List.range (n * 4)).map fun (p : Nat) => if p / 4 < k then fld (js.getD (p / 4) default) (p % 4) else .int .i64 0
theorem jpart_len (js : List J) (n k : Nat) : (jpart js n k).length = n * 4 := by simp [jpart]
theorem jpart_zero (js : List J) (n : Nat) : jpart js n 0 = List.replicate (n * 4) (.int .i64 0) := by
  refine List.ext_getElem (by simp [jpart]) fun i h1 h2 => ?_
  simp [jpart]
theorem jpart_at (js : List J) (n k i f : Nat) (hi : i < js.length) (hk : i < k) (hn : i < n) (hf : f < 4) (h : i * 4 + f < (jpart js n k).length) : (jpart js n k)[i * 4 + f] = fld js[i] f := by
  simp only [jpart, List.getElem_map, List.getElem_range]
  rw [show (i * 4 + f) / 4 = i by omega, show (i * 4 + f) % 4 = f by omega, if_pos hk, List.getD_eq_getElem?_getD, List.getElem?_eq_getElem hi]
  rfl
theorem jpart_set (js : List J) (n k : Nat) (hk : k < js.length) (hn : k < n) : ((((jpart js n k).set (k * 4) (.int .i64 js[k].time)).set (k * 4 + 1) (.int .i64 js[k].rel)).set (k * 4 + 2) (.int .i64 js[k].due)).set (k * 4 + 3) (.int .i64 js[k].wt) = jpart js n (k + 1) := by
  refine List.ext_getElem (by simp [jpart]) fun i h1 h2 => ?_
  simp only [List.getElem_set]
  simp only [jpart, List.getElem_map, List.getElem_range]
  have hg : js.getD k default = js[k] := by rw [List.getD_eq_getElem?_getD, List.getElem?_eq_getElem hk]; rfl
  by_cases e3 : k * 4 + 3 = i
  · subst e3; rw [if_pos rfl, if_pos (by omega), show (k * 4 + 3) / 4 = k by omega, show (k * 4 + 3) % 4 = 3 by omega, hg]; rfl
  · rw [if_neg e3]
    by_cases e2 : k * 4 + 2 = i
    · subst e2; rw [if_pos rfl, if_pos (by omega), show (k * 4 + 2) / 4 = k by omega, show (k * 4 + 2) % 4 = 2 by omega, hg]; rfl
    · rw [if_neg e2]
      by_cases e1 : k * 4 + 1 = i
      · subst e1; rw [if_pos rfl, if_pos (by omega), show (k * 4 + 1) / 4 = k by omega, show (k * 4 + 1) % 4 = 1 by omega, hg]; rfl
      · rw [if_neg e1]
        by_cases e0 : k * 4 = i
        · subst e0; rw [if_pos rfl, if_pos (by omega), show (k * 4) / 4 = k by omega, show (k * 4) % 4 = 0 by omega, hg]; rfl
        · rw [if_neg e0]
          by_cases h : i / 4 < k
          · rw [if_pos h, if_pos (by omega)]
          · rw [if_neg h, if_neg (by omega)]

/-- A row of jobs. -/
def JRow (w : World) (g : Nat) (js : List J) : Prop := Row w g 67 (js.length * 4) (jpart js js.length js.length)
theorem JRow.rd {w : World} {g : Nat} {js : List J} (h : JRow w g js) : JRd w g 0 js := fun i hi => by
  have hl := jpart_len js js.length js.length
  have key : ∀ f (hf : f < 4), w.cell? ⟨g, i * 4 + f, none⟩ = some (fld js[i] f) := fun f hf => by
    rw [Row.cell h (i * 4 + f) (by rw [hl]; omega), jpart_at js _ _ i f hi hi hi hf]
  rw [Nat.zero_add]
  exact ⟨key 0 (by omega), key 1 (by omega), key 2 (by omega), key 3 (by omega)⟩

def MadeJ (w : World) (js : List J) (e : Ending) (w' : World) : Prop :=
  ∃ g, e = .returned (.slice (some ⟨g, 0, none⟩) js.length js.length) ∧ JRow w' g js ∧ w.heap.size ≤ g ∧ Below w.heap.size w w'

theorem zeros4 (len : Nat) : (madeCells (Value.agg #[.int .i64 0, .int .i64 0, .int .i64 0, .int .i64 0]).cells (len * 4)).toList = List.replicate (len * 4) (.int .i64 0) := by
  refine List.ext_getElem (by simp [madeCells]) fun i h1 h2 => ?_
  have : ∀ r, r < 4 → (#[Value.int .i64 0, .int .i64 0, .int .i64 0, .int .i64 0] : Array Value)[r]! = .int .i64 0 := by
    intro r hr
    match r, hr with
    | 0, _ => rfl
    | 1, _ => rfl
    | 2, _ => rfl
    | 3, _ => rfl
  simp only [madeCells, Value.cells, Array.toList_map, List.getElem_map, List.getElem_replicate]
  simp only [Array.toList_range, List.getElem_range]
  exact this _ (Nat.mod_lt _ (by decide))

set_option maxHeartbeats 2000000 in
theorem toJobS_any (a : Option Addr) (len cap : Nat) (js : List J) (w : World) (hr : IsJobs w a len js) (hm : len ≤ 1048576) :
    Calls Try.prog 28 #[.slice a len cap] w (MadeJ w js) := by
  obtain ⟨hl, hr⟩ := hr
  have hfin : ∀ g w', Row w' g 67 (len * 4) (jpart js len len) → w.heap.size ≤ g → Below w.heap.size w w' → MadeJ w js (.returned (.slice (some ⟨g, 0, none⟩) len len)) w' := by
    intro g w' h1 h2 h3
    subst hl
    exact ⟨g, rfl, h1, h2, h3⟩
  have HF := Lib.hid hfin; have HL := Lib.hid hl; clear hfin
  by_cases h0 : len = 0
  · subst h0
    clear hl hr
    go_enter Try.func28, Try.ntmps28
    go_wp2_with (at_make; refine wp_makeN rfl (.tmp 6) 29 rfl 67 _ 4 32 Try.underlying29 Try.info67 _ 0 (zeros4 0) .i64 _ rfl rfl (by omega) (by decide) (by decide) ?_; intro w1 hrow _ hbel)
    refine wp_loop_rounds 1 ?_; rw [rounds_succ]
    go_wp2
    go_ret
    exact HF.out _ _ (by rw [jpart_zero]; exact hrow) (Nat.le_refl _) hbel
  · obtain ⟨b, off, rfl, hc⟩ : ∃ b off, a = some ⟨b, off, none⟩ ∧ JRd w b off js := by
      rcases hr with h | h
      · omega
      · exact h
    have HC := Lib.hid hc; clear hc hr hl
    go_enter Try.func28, Try.ntmps28
    go_wp2_with (at_make; refine wp_makeN rfl (.tmp 6) 29 rfl 67 _ 4 32 Try.underlying29 Try.info67 _ len (zeros4 len) .i64 _ rfl rfl (by omega) (by unfold maxLen; omega) (by unfold maxLen; omega) ?_; intro w1 hrow _ hbel)
    have HLT := hrow.lt
    rw [← jpart_zero js] at hrow
    go_loopw [4] (fun i wr => ∃ k : Nat, k ≤ len ∧ i = .int .i64 k ∧ Row wr w.heap.size 67 (len * 4) (jpart js len k) ∧ Below w.heap.size w wr) (fun i _ => len - (intOf i).toNat)
    case atStart => exact ⟨0, Nat.zero_le _, rfl, hrow, hbel⟩
    case round =>
      obtain ⟨k, hk, rfl, hrk, hbk⟩ := hrel
      have HR := Lib.hid hrk; have HB := Lib.hid hbk
      by_cases hlt : k < len
      · have hkz : k < js.length := by have := HL.out; omega
        obtain ⟨c0, c1, c2, c3⟩ := HC.out k hkz
        have hbl := block_lt_of_cell c0
        rw [← hbk.cell (by exact hbl)] at c0 c1 c2 c3
        clear hbk hrow hbel hrk
        go_wp2_with fail
        go_at_call 74
        refine (toJob_any _ _ _ _ _).mono ?_
        rintro e w2 ⟨rfl, hb2⟩
        have R2 := Lib.hid (HR.out.below hb2 HR.out.lt)
        have B2 := Lib.hid (HB.out.trans (hb2.mono HB.out.size))
        clear hb2 c0 c1 c2 c3
        have d0 := R2.out.cell (k * 4) (by rw [jpart_len]; omega)
        have d1 := R2.out.cell (k * 4 + 1) (by rw [jpart_len]; omega)
        have d2 := R2.out.cell (k * 4 + 2) (by rw [jpart_len]; omega)
        have d3 := R2.out.cell (k * 4 + 3) (by rw [jpart_len]; omega)
        have f0 := R2.out.free (k * 4)
        have f1 := R2.out.free (k * 4 + 1)
        have f2 := R2.out.free (k * 4 + 2)
        have f3 := R2.out.free (k * 4 + 3)
        have hset := (((R2.out.set (k * 4) (.int .i64 js[k].time)).set (k * 4 + 1) (.int .i64 js[k].rel)).set (k * 4 + 2) (.int .i64 js[k].due)).set (k * 4 + 3) (.int .i64 js[k].wt)
        rw [jpart_set js len k hkz hlt] at hset
        have HS := Lib.hid hset; clear hset
        generalize (jpart js len k)[k * 4]'(by rw [jpart_len]; omega) = v0 at d0
        generalize (jpart js len k)[k * 4 + 1]'(by rw [jpart_len]; omega) = v1 at d1
        generalize (jpart js len k)[k * 4 + 2]'(by rw [jpart_len]; omega) = v2 at d2
        generalize (jpart js len k)[k * 4 + 3]'(by rw [jpart_len]; omega) = v3 at d3
        go_wp2
        go_roundw
        case rel => exact ⟨k + 1, by omega, by go_num, HS.out, (((B2.out.setCell (Nat.le_refl _) _).setCell (Nat.le_refl _) _).setCell (Nat.le_refl _) _).setCell (Nat.le_refl _) _⟩
        case measure => simp [intOf]; omega
      · obtain rfl : k = len := by omega
        clear hrk hbk hrow hbel
        go_wp2
        go_ret
        exact HF.out _ _ HR.out (Nat.le_refl _) HB.out
end Go.Proofs.Ytncmhinpjkkfkaa
