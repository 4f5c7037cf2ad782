/-
  Walks: the least parting to batches: comparisons of lists, the better one of two, a list turned round, appends. Conditions: none.
-/
import Derived.Test.YtncmhinpjkkfkaaK60
import Derived.Deep.RegionHeld3
import Derived.Deep.AppendLies
import Derived.Maps.AppendAt
import Derived.Laws.AppendOwnNone
set_option linter.unusedVariables false
set_option linter.unusedSimpArgs false
namespace Go.Proofs.Ytncmhinpjkkfkaa
open Go Go.RowKit

theorem l00Min_any (a b : Int) (w : World) : Calls Try.prog 114 #[.int .i64 a, .int .i64 b] w fun e w' => e = .returned (.int .i64 (min a b)) ∧ w = w' := by
  by_cases h : a < b
  · have HM : Hid (min a b = a) := Lib.hid (by omega)
    go_enter Try.func114, Try.ntmps114
    go_wp2
    go_ret
    exact ⟨ret_int HM.out.symm, rfl⟩
  · have HM : Hid (min a b = b) := Lib.hid (by omega)
    go_enter Try.func114, Try.ntmps114
    go_wp2
    go_ret
    exact ⟨ret_int HM.out.symm, rfl⟩

theorem isNaN_any (a : Int) (w : World) : Calls Try.prog 138 #[.int .i64 a] w fun e w' => e = .returned (.bool false) ∧ w = w' := by
  have h : (a != a) = false := by simp
  go_enter Try.func138, Try.ntmps138
  go_wp2
  go_ret
  exact ⟨ret_bool (by first | rfl | simp), rfl⟩

def cmpI (a b : Int) : Int := if a < b then -1 else if b < a then 1 else 0
set_option maxHeartbeats 1000000 in
theorem cmpCompare_any (a b : Int) (w : World) : Calls Try.prog 137 #[.int .i64 a, .int .i64 b] w fun e w' => e = .returned (.int .i64 (cmpI a b)) ∧ w = w' := by
  rcases Int.lt_trichotomy a b with h | h | h
  · have HM : Hid (cmpI a b = -1) := Lib.hid (by unfold cmpI; rw [if_pos h])
    go_enter Try.func137, Try.ntmps137
    go_wp2_with (go_at_call 138; refine (isNaN_any _ _).mono ?_; rintro e w' ⟨rfl, rfl⟩)
    go_ret
    exact ⟨ret_int HM.out.symm, rfl⟩
  · have HM : Hid (cmpI a b = 0) := Lib.hid (by unfold cmpI; rw [if_neg (by omega), if_neg (by omega)])
    have h1 : ¬ a < b := by omega
    have h2 : ¬ b < a := by omega
    clear h
    go_enter Try.func137, Try.ntmps137
    go_wp2_with (go_at_call 138; refine (isNaN_any _ _).mono ?_; rintro e w' ⟨rfl, rfl⟩)
    go_ret
    exact ⟨ret_int HM.out.symm, rfl⟩
  · have HM : Hid (cmpI a b = 1) := Lib.hid (by unfold cmpI; rw [if_neg (by omega), if_pos h])
    have h1 : ¬ a < b := by omega
    go_enter Try.func137, Try.ntmps137
    go_wp2_with (go_at_call 138; refine (isNaN_any _ _).mono ?_; rintro e w' ⟨rfl, rfl⟩)
    go_ret
    exact ⟨ret_int HM.out.symm, rfl⟩

/-- What is left to compare from place k on. -/
theorem cmpL_drop_lt {xs ys : List Int} {k : Nat} (hx : k < xs.length) (hy : k < ys.length) :
    Batch.cmpL (xs.drop k) (ys.drop k) = if cmpI (xs.getD k 0) (ys.getD k 0) ≠ 0 then cmpI (xs.getD k 0) (ys.getD k 0) else Batch.cmpL (xs.drop (k + 1)) (ys.drop (k + 1)) := by
  rw [List.drop_eq_getElem_cons hx, List.drop_eq_getElem_cons hy, List.getD_eq_getElem?_getD, List.getD_eq_getElem?_getD, List.getElem?_eq_getElem hx, List.getElem?_eq_getElem hy]
  simp only [Batch.cmpL, Option.getD_some, cmpI]
  split
  · simp
  · split <;> simp
theorem cmpL_drop_x {xs ys : List Int} {k : Nat} (hx : k < xs.length) (hy : ys.length ≤ k) : Batch.cmpL (xs.drop k) (ys.drop k) = 1 := by
  rw [List.drop_eq_getElem_cons hx, List.drop_eq_nil_of_le hy]; rfl
theorem cmpL_drop_y {xs ys : List Int} {k : Nat} (hx : xs.length ≤ k) (hy : k < ys.length) : Batch.cmpL (xs.drop k) (ys.drop k) = -1 := by
  rw [List.drop_eq_nil_of_le hx, List.drop_eq_getElem_cons hy]; rfl
theorem cmpL_drop_n {xs ys : List Int} {k : Nat} (hx : xs.length ≤ k) (hy : ys.length ≤ k) : Batch.cmpL (xs.drop k) (ys.drop k) = 0 := by
  rw [List.drop_eq_nil_of_le hx, List.drop_eq_nil_of_le hy]; rfl

theorem At.get {w : World} {a : Option Addr} {xs : List Int} (h : At w a xs) (h0 : xs ≠ []) : ∃ g o, a = some ⟨g, o, none⟩ ∧ Rd w g o xs := by
  rcases h with h | h
  · exact absurd h h0
  · exact h
theorem Rd.getO {w : World} {g o : Nat} {xs : List Int} (h : Rd w g o xs) (i : Nat) (hi : i < xs.length) : w.cell? ⟨g, o + i, none⟩ = some (.int .i64 (xs.getD i 0)) := by
  rw [h i hi, List.getD_eq_getElem?_getD, List.getElem?_eq_getElem hi]; simp

set_option maxHeartbeats 2000000 in
theorem compare_any (a b : Option Addr) (n m c d : Nat) (xs ys : List Int) (w : World) (hn : xs.length = n) (hm : ys.length = m) (n2 : n ≤ 1048576) (m2 : m ≤ 1048576) (hx : At w a xs) (hy : At w b ys) :
    Calls Try.prog 134 #[.slice a n c, .slice b m d] w fun e w' => e = .returned (.int .i64 (Batch.cmpL xs ys)) ∧ w = w' := by
  have HN := Lib.hid hn; have HM := Lib.hid hm
  have HX := Lib.hid hx; have HY := Lib.hid hy
  have hst : Batch.cmpL xs ys = Batch.cmpL (xs.drop 0) (ys.drop 0) := by simp
  have HST := Lib.hid hst
  clear hn hm hx hy hst
  go_enter Try.func134, Try.ntmps134
  go_wp2
  go_loop [5, 6, 7, 8, 11] (fun _ _ _ _ i => ∃ k : Nat, k ≤ n ∧ k ≤ m ∧ i = .int .i64 k ∧ Batch.cmpL xs ys = Batch.cmpL (xs.drop k) (ys.drop k)) (fun _ _ _ _ i => n - (intOf i).toNat)
  case atStart => exact ⟨0, Nat.zero_le _, Nat.zero_le _, rfl, HST.out⟩
  case round =>
    obtain ⟨k, hk, hkm, rfl, hs⟩ := hrel
    have HS := Lib.hid hs; clear hs
    by_cases hlt : k < n
    · obtain ⟨g, o, rfl, hr⟩ := HX.out.get (fun e => by have := HN.out; rw [e] at this; simp at this; omega)
      have c1 := hr.getO k (by have := HN.out; omega)
      by_cases hlt2 : k < m
      · obtain ⟨g', o', rfl, hr'⟩ := HY.out.get (fun e => by have := HM.out; rw [e] at this; simp at this; omega)
        have c2 := hr'.getO k (by have := HM.out; omega)
        have hd := cmpL_drop_lt (xs := xs) (ys := ys) (k := k) (by have := HN.out; omega) (by have := HM.out; omega)
        have HD := Lib.hid hd
        clear hd hr hr'
        generalize xs.getD k 0 = x at *
        generalize ys.getD k 0 = y at *
        obtain ⟨v, hv⟩ : ∃ v, cmpI x y = v := ⟨_, rfl⟩
        have HV := Lib.hid hv; clear hv
        by_cases h0 : v = 0
        · have hb : (v != 0) = false := by simp [h0]
          have hs2 : Batch.cmpL xs ys = Batch.cmpL (xs.drop (k + 1)) (ys.drop (k + 1)) := by rw [HS.out, HD.out, HV.out, h0]; simp
          have HS2 := Lib.hid hs2
          clear hs2 h0
          go_wp2_with (go_at_call 137; refine (cmpCompare_any _ _ _).mono ?_; rintro e w' ⟨rfl, rfl⟩; rw [HV.out])
          go_round
          case rel => exact ⟨k + 1, by omega, by omega, by go_num, HS2.out⟩
          case measure => simp [intOf]; omega
        · have hb : (v != 0) = true := by simp [h0]
          have hs2 : Batch.cmpL xs ys = v := by rw [HS.out, HD.out, HV.out, if_pos h0]
          have HS2 := Lib.hid hs2
          clear hs2 h0
          go_wp2_with (go_at_call 137; refine (cmpCompare_any _ _ _).mono ?_; rintro e w' ⟨rfl, rfl⟩; rw [HV.out])
          go_ret
          exact ⟨ret_int HS2.out.symm, rfl⟩
      · have hs2 : Batch.cmpL xs ys = 1 := by rw [HS.out]; exact cmpL_drop_x (by have := HN.out; omega) (by have := HM.out; omega)
        have HS2 := Lib.hid hs2
        clear hs2 hr
        generalize xs.getD k 0 = x at *
        go_wp2
        go_ret
        exact ⟨ret_int HS2.out.symm, rfl⟩
    · obtain rfl : k = n := by omega
      by_cases hlt2 : k < m
      · have hs2 : Batch.cmpL xs ys = -1 := by rw [HS.out]; exact cmpL_drop_y (by have := HN.out; omega) (by have := HM.out; omega)
        have HS2 := Lib.hid hs2
        clear hs2
        go_wp2
        go_ret
        exact ⟨ret_int HS2.out.symm, rfl⟩
      · have hs2 : Batch.cmpL xs ys = 0 := by rw [HS.out]; exact cmpL_drop_n (by have := HN.out; omega) (by have := HM.out; omega)
        have HS2 := Lib.hid hs2
        clear hs2
        go_wp2
        go_ret
        exact ⟨ret_int HS2.out.symm, rfl⟩

/-- A list of sizes as a value: nil, or a row of its own. -/
def Sz (w : World) (v : Value) (l : List Int) : Prop := (l = [] ∧ v = .slice none 0 0) ∨ ∃ G c, v = .slice (some ⟨G, 0, none⟩) l.length c ∧ l ≠ [] ∧ Rw w G c l
theorem Sz.form {w : World} {v : Value} {l : List Int} (h : Sz w v l) : ∃ A c, v = .slice A l.length c ∧ At w A l := by
  rcases h with ⟨rfl, rfl⟩ | ⟨G, c, rfl, _, h⟩
  · exact ⟨none, 0, rfl, .inl rfl⟩
  · exact ⟨_, c, rfl, .inr ⟨G, 0, rfl, h.rd⟩⟩
theorem Sz.nil (w : World) : Sz w (.slice none 0 0) [] := .inl ⟨rfl, rfl⟩
theorem Sz.below {w w' : World} {v : Value} {l : List Int} (h : Sz w v l) (hb : Below w.heap.size w w') : Sz w' v l := by
  rcases h with h | ⟨G, c, rfl, h0, h⟩
  · exact .inl h
  · exact .inr ⟨G, c, rfl, h0, h.below hb h.lt⟩
theorem Sz.alloc {w : World} {v : Value} {l : List Int} (h : Sz w v l) (o : Obj) : Sz (w.alloc o) v l := h.below ((Below.refl _ _).alloc (Nat.le_refl _) o)
theorem Sz.dr {w w' : World} {v : Value} {l : List Int} (h : Sz w v l) (hd : Dr w w') : Sz w' v l := h.below hd.below

/-- An entry as a value. -/
def ec (e : Batch.Ent) : Int := match e with | none => 0 | some a => a.1
def eb (e : Batch.Ent) : Bool := e.isSome

def BetP (w : World) (e : Batch.Ent) (en : Ending) (w' : World) : Prop :=
  ∃ sv, en = .returned (.agg #[.bool (eb e), .int .i64 (ec e), sv]) ∧ Sz w' sv (Batch.szs e) ∧ Below w.heap.size w w'

theorem Try.info93 : (Try.prog.info? 93).map (fun i => (i.zero, i.size, i.bytes)) = some (some (.agg #[.bool false, .int .i64 0, .slice none 0 0]), 3, 40) := by kernel_rfl

theorem three_allocs (w : World) (o1 o2 o3 : Obj) : Below w.heap.size w (((w.alloc o1).alloc o2).alloc o3) :=
  (((Below.refl _ _).alloc (Nat.le_refl _) _).alloc (by simp) _).alloc (by simp; omega) _

theorem better_some (y x : Int × List Int) : Batch.better (some y) (some x) = if y.1 < x.1 ∨ (y.1 = x.1 ∧ Batch.cmpL y.2 x.2 ≤ 0) then some y else some x := rfl

set_option maxHeartbeats 4000000 in
set_option maxRecDepth 100000 in
theorem better_any (a b : Batch.Ent) (sa sb : Value) (w : World) (ha : Sz w sa (Batch.szs a)) (hb : Sz w sb (Batch.szs b)) (la : (Batch.szs a).length ≤ 1000) (lb : (Batch.szs b).length ≤ 1000) :
    Calls Try.prog 116 #[.agg #[.bool (eb a), .int .i64 (ec a), sa], .agg #[.bool (eb b), .int .i64 (ec b), sb]] w (BetP w (Batch.better a b)) := by
  have hA : ∀ w', Batch.better a b = a → Below w.heap.size w w' → BetP w (Batch.better a b) (.returned (.agg #[.bool (eb a), .int .i64 (ec a), sa])) w' := fun w' h1 h2 => by
    rw [h1]; exact ⟨sa, rfl, ha.below h2, h2⟩
  have hB : ∀ w', Batch.better a b = b → Below w.heap.size w w' → BetP w (Batch.better a b) (.returned (.agg #[.bool (eb b), .int .i64 (ec b), sb])) w' := fun w' h1 h2 => by
    rw [h1]; exact ⟨sb, rfl, hb.below h2, h2⟩
  obtain ⟨A, cA, rfl, hAt⟩ := ha.form
  obtain ⟨B, cB, rfl, hBt⟩ := hb.form
  have hcmp : ∀ w', Below w.heap.size w w' → Calls Try.prog 134 #[.slice A (Batch.szs a).length cA, .slice B (Batch.szs b).length cB] w' fun e w'' => e = .returned (.int .i64 (Batch.cmpL (Batch.szs a) (Batch.szs b))) ∧ w' = w'' := fun w' h => by
    obtain ⟨A', cA', e1, h1⟩ := (ha.below h).form
    obtain ⟨B', cB', e2, h2⟩ := (hb.below h).form
    injection e1 with e1 _ _
    injection e2 with e2 _ _
    subst e1 e2
    exact compare_any _ _ _ _ _ _ _ _ w' rfl rfl (by omega) (by omega) h1 h2
  clear ha hb hAt hBt
  have HA := Lib.hid hA; have HB := Lib.hid hB; have HCMP := Lib.hid hcmp
  cases b with
  | none =>
    have he : Batch.better a none = a := by cases a <;> rfl
    have HE := Lib.hid he
    have f1 : eb (none : Batch.Ent) = false := rfl
    clear hA hB hcmp he
    generalize (Batch.szs a).length = n at *
    generalize (Batch.szs (none : Batch.Ent)).length = m at *
    rw [f1] at *
    generalize eb a = ta at *
    generalize ec a = ca at *
    generalize ec (none : Batch.Ent) = cb at *
    go_enter Try.func116, Try.ntmps116
    go_wp2
    exact bodyPost_ret (v := .agg #[.bool ta, .int .i64 ca, .slice A n cA]) (by simp [results, Try.results116, go_sem]) rfl (HA.out _ HE.out (three_allocs _ _ _ _))
  | some x =>
    have f1 : eb (some x) = true := rfl
    have f2 : ec (some x) = x.1 := rfl
    cases a with
    | none =>
      have HE : Hid (Batch.better none (some x) = some x) := Lib.hid rfl
      have f3 : eb (none : Batch.Ent) = false := rfl
      clear hA hB hcmp
      rw [f1, f2] at *
      rw [f3] at *
      generalize (Batch.szs (none : Batch.Ent)).length = n at *
      generalize (Batch.szs (some x)).length = m at *
      generalize ec (none : Batch.Ent) = ca at *
      generalize x.1 = cb at *
      go_enter Try.func116, Try.ntmps116
      go_wp2
      exact bodyPost_ret (v := .agg #[.bool true, .int .i64 cb, .slice B m cB]) (by simp [results, Try.results116, go_sem]) rfl (HB.out _ HE.out (three_allocs _ _ _ _))
    | some y =>
      obtain ⟨yc, yl⟩ := y
      obtain ⟨xc, xl⟩ := x
      have hBe := better_some (yc, yl) (xc, xl)
      simp only at hBe
      obtain ⟨v, hv⟩ : ∃ v, Batch.cmpL yl xl = v := ⟨_, rfl⟩
      rw [hv] at hBe
      obtain ⟨n, hn⟩ : ∃ n, yl.length = n := ⟨_, rfl⟩
      obtain ⟨m, hm⟩ : ∃ n, xl.length = n := ⟨_, rfl⟩
      have HA' : Hid (∀ w', Batch.better (some (yc, yl)) (some (xc, xl)) = some (yc, yl) → Below w.heap.size w w' → BetP w (Batch.better (some (yc, yl)) (some (xc, xl))) (.returned (.agg #[.bool true, .int .i64 yc, .slice A n cA])) w') := Lib.hid (by rw [← hn]; exact HA.out)
      have HB' : Hid (∀ w', Batch.better (some (yc, yl)) (some (xc, xl)) = some (xc, xl) → Below w.heap.size w w' → BetP w (Batch.better (some (yc, yl)) (some (xc, xl))) (.returned (.agg #[.bool true, .int .i64 xc, .slice B m cB])) w') := Lib.hid (by rw [← hm]; exact HB.out)
      have HC' : Hid (∀ w', Below w.heap.size w w' → Calls Try.prog 134 #[.slice A n cA, .slice B m cB] w' fun e w'' => e = .returned (.int .i64 v) ∧ w' = w'') := Lib.hid (by rw [← hn, ← hm, ← hv]; exact HCMP.out)
      show Calls Try.prog 116 #[.agg #[.bool true, .int .i64 yc, .slice A yl.length cA], .agg #[.bool true, .int .i64 xc, .slice B xl.length cB]] w _
      rw [hn, hm]
      clear hA hB hcmp HA HB HCMP f1 f2 la lb hv hn hm
      rcases Int.lt_trichotomy yc xc with h | h | h
      · have HE : Hid (Batch.better (some (yc, yl)) (some (xc, xl)) = some (yc, yl)) := Lib.hid (by rw [hBe, if_pos (.inl h)])
        clear hBe
        go_enter Try.func116, Try.ntmps116
        go_wp2
        exact bodyPost_ret (v := .agg #[.bool true, .int .i64 yc, .slice A n cA]) (by simp [results, Try.results116, go_sem]) rfl (HA'.out _ HE.out (three_allocs _ _ _ _))
      · have h1 : ¬ yc < xc := by omega
        have h2 : (yc == xc) = true := by simp [h]
        by_cases h0 : v ≤ 0
        · have HE : Hid (Batch.better (some (yc, yl)) (some (xc, xl)) = some (yc, yl)) := Lib.hid (by rw [hBe, if_pos (.inr ⟨h, h0⟩)])
          clear hBe h
          go_enter Try.func116, Try.ntmps116
          go_wp2_with (go_at_call 134; refine (HC'.out _ (three_allocs _ _ _ _)).mono ?_; rintro e w' ⟨rfl, rfl⟩)
          exact bodyPost_ret (v := .agg #[.bool true, .int .i64 yc, .slice A n cA]) (by simp [results, Try.results116, go_sem]) rfl (HA'.out _ HE.out (three_allocs _ _ _ _))
        · have HE : Hid (Batch.better (some (yc, yl)) (some (xc, xl)) = some (xc, xl)) := Lib.hid (by rw [hBe, if_neg (by rintro (h3 | ⟨_, h3⟩); exact h1 h3; exact h0 h3)])
          clear hBe h
          go_enter Try.func116, Try.ntmps116
          go_wp2_with (go_at_call 134; refine (HC'.out _ (three_allocs _ _ _ _)).mono ?_; rintro e w' ⟨rfl, rfl⟩)
          exact bodyPost_ret (v := .agg #[.bool true, .int .i64 xc, .slice B m cB]) (by simp [results, Try.results116, go_sem]) rfl (HB'.out _ HE.out (three_allocs _ _ _ _))
      · have h1 : ¬ yc < xc := by omega
        have h2 : (yc == xc) = false := by simp; omega
        have HE : Hid (Batch.better (some (yc, yl)) (some (xc, xl)) = some (xc, xl)) := Lib.hid (by rw [hBe, if_neg (by rintro (h3 | ⟨h3, _⟩) <;> omega)])
        clear hBe h
        go_enter Try.func116, Try.ntmps116
        go_wp2
        exact bodyPost_ret (v := .agg #[.bool true, .int .i64 xc, .slice B m cB]) (by simp [results, Try.results116, go_sem]) rfl (HB'.out _ HE.out (three_allocs _ _ _ _))
end Go.Proofs.Ytncmhinpjkkfkaa
