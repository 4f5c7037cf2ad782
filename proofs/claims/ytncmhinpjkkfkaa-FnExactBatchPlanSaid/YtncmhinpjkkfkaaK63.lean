/-
  Walks: the least parting to batches: rows of sums, the flat table, appends that keep what they read. Conditions: none.
-/
import Derived.Test.YtncmhinpjkkfkaaK62
import Derived.Test.YtncmhinpjkkfkaaK26
set_option linter.unusedVariables false
set_option linter.unusedSimpArgs false
namespace Go.Proofs.Ytncmhinpjkkfkaa
open Go Go.RowKit

/-- The values of a function at 0 to k. -/
def preL (f : Nat → Int) (k : Nat) : List Int := (List.range (k + 1)).map f
theorem preL_len (f : Nat → Int) (k : Nat) : (preL f k).length = k + 1 := by simp [preL]
theorem preL_get {f : Nat → Int} {k i : Nat} (h : i ≤ k) : (preL f k).getD i 0 = f i := by
  rw [List.getD_eq_getElem?_getD, List.getElem?_eq_getElem (by rw [preL_len]; omega)]
  simp [preL]
theorem preL_push (f : Nat → Int) (k : Nat) : preL f k ++ [f (k + 1)] = preL f (k + 1) := by
  unfold preL; rw [List.range_succ (n := k + 1), List.map_append]; rfl
theorem preL_zero {f : Nat → Int} {w : World} (h : f 0 = 0) : Rw (w.alloc (.cells #[.int .i64 0] 2)) w.heap.size 1 (preL f 0) := by
  have e : preL f 0 = [0] := by unfold preL; simp [h]
  rw [e]
  exact ⟨#[.int .i64 0], heap_alloc_new w _, rfl, by simp, by simp [maxLen], rfl⟩

/-- The rows of the two sums. -/
structure Pre (js : List J) (U : Nat) (w : World) (k GT cT GW cW : Nat) (w' : World) : Prop where
  rt : Rw w' GT cT (preL (tmB js) k)
  rw : Rw w' GW cW (preL (wtB js) k)
  ne : GT ≠ GW
  b : Below U w w'
  ut : U ≤ GT
  uw : U ≤ GW
theorem Pre.keep {js : List J} {U k GT cT GW cW : Nat} {w a b : World} (h : Pre js U w k GT cT GW cW a) (hb : Below a.heap.size a b) : Pre js U w k GT cT GW cW b :=
  ⟨h.rt.below hb h.rt.lt, h.rw.below hb h.rw.lt, h.ne, h.b.trans (hb.mono (by have := h.rt.lt; have := h.ut; omega)), h.ut, h.uw⟩
theorem Pre.dr {js : List J} {U k GT cT GW cW : Nat} {w a b : World} (h : Pre js U w k GT cT GW cW a) (hd : Dr a b) : Pre js U w k GT cT GW cW b :=
  h.keep hd.below
theorem Pre.sz {js : List J} {U k GT cT GW cW : Nat} {w a : World} (h : Pre js U w k GT cT GW cW a) : U ≤ a.heap.size := by have := h.rt.lt; have := h.ut; omega
theorem Pre.tc {js : List J} {U k GT cT GW cW : Nat} {w a : World} (h : Pre js U w k GT cT GW cW a) {i : Nat} (hi : i ≤ k) : a.cell? ⟨GT, i, none⟩ = some (.int .i64 (tmB js i)) := by
  have := h.rt.cell i (by rw [preL_len]; omega)
  rw [preL_get hi] at this; exact this
theorem Pre.wc {js : List J} {U k GT cT GW cW : Nat} {w a : World} (h : Pre js U w k GT cT GW cW a) {i : Nat} (hi : i ≤ k) : a.cell? ⟨GW, i, none⟩ = some (.int .i64 (wtB js i)) := by
  have := h.rw.cell i (by rw [preL_len]; omega)
  rw [preL_get hi] at this; exact this
theorem Pre.set {js : List J} {U k GT cT GW cW : Nat} {w a : World} (h : Pre js U w k GT cT GW cW a) {G q : Nat} (u : Value) (h1 : GT ≠ G) (h2 : GW ≠ G) (h3 : U ≤ G) : Pre js U w k GT cT GW cW (a.setCell ⟨G, q, none⟩ u) :=
  ⟨h.rt.other h1 u, h.rw.other h2 u, h.ne, h.b.setCell (p := ⟨G, q, none⟩) h3 u, h.ut, h.uw⟩

/-- append(s, v) on a row: the new row, and the old one's cells, that stay. -/
theorem run_push_at {P : Program} (w : World) {t ty e : TypeId} {i : TypeInfo} {z : Value} {by' : Nat} (ht : P.underlying t = some (.slice e)) (hi : P.info? e = some i) (hz : i.zero = some z) (hs : i.size = 1) (hy : i.bytes = by') (hzs : z.cells.size = 1)
    (G cap : Nat) (xs : List Value) (n : Nat) (hn : xs.length = n) (hrow : Row w G e cap xs) (ad : Addr) (c : Nat) (v : Value) (hv : v.oneCell' = true) (hnews : ∀ j u, [v][j]? = some u → w.cell? (ad.add j) = some u)
    (hsm : n + 1 ≤ maxLen) (hb : (n + 1) * by' ≤ 140737488355328) :
    ∃ G' cap' w', (Builtin.append_ #[t, t] ty #[.slice (some ⟨G, 0, none⟩) n cap, .slice (some ad) 1 c]).run P w = .ok (.slice (some ⟨G', 0, none⟩) (n + 1) cap') w' ∧ Row w' G' e cap' (xs ++ [v]) ∧ w.grownBy w' (some G) ∧ (G' = G ∨ G' = w.heap.size) ∧
      ∀ j (hj : j < xs.length), w'.cell? ⟨G, j, none⟩ = some xs[j] := by
  obtain ⟨v', w', hr, h2, h3, _, h5⟩ := run_append_own_at (P := P) w 0 t ty e i z 1 by' ht hi hz hs hy hzs (by decide) (.slice (some ⟨G, 0, none⟩) n cap) n xs (hrow.owns hn (Nat.zero_le _)) ad 1 c [v] rfl hnews (by intro u hu; simp at hu; subst hu; exact hv) hsm hb (Nat.zero_le _)
  have hlt := hrow.lt
  obtain ⟨g, cap', hvv, _, _⟩ := h2.form (by omega)
  subst hvv
  have hrow' := (Row.of_owns h2).1
  have hown : (Value.slice (some ⟨G, 0, none⟩) n cap).ownBlock = some G := by simp [Value.ownBlock]
  rw [hown] at h3 h5
  have hat : g = G ∨ g = w.heap.size := by
    rcases h5 with h5 | h5
    · exact .inl (by simpa [Value.ownBlock] using h5)
    · exact .inr (by simpa [Value.ownBlock] using h5)
  refine ⟨g, cap', w', hr, hrow', h3, hat, fun j hj => ?_⟩
  by_cases hroom : n + 1 ≤ cap
  · obtain ⟨cur, hg, hc, hl, hm, htk⟩ := hrow
    have hr2 := run_append_room (P := P) w t ty e i ht hi G n cap cur hg ad 1 c [v] (by rw [hs]; rfl) hnews (by intro u hu; simp at hu; subst hu; exact hv) hroom (by rw [hs]; simp; omega)
    rw [hr] at hr2
    injection hr2 with e1 e2
    injection e1 with e1 _ _
    injection e1 with e1
    injection e1 with e1 _ _
    subst e1
    rw [hrow'.cell j (by simp; omega), List.getElem_append_left hj]
  · have hr2 := run_append_grow (P := P) w t ty e i z ht hi hz ⟨G, 0, none⟩ n cap xs (by rw [hs, hn, Nat.mul_one]) ((hrow.owns (B := 0) hn (Nat.zero_le _)).cells (g := G) rfl) ad 1 c [v] (by rw [hs]; rfl) hnews (by omega) (by unfold maxLen at hsm; omega) (growslice_fits (by omega) (by rw [hy]; exact hb))
    rw [hr] at hr2
    injection hr2 with _ e2
    subst e2
    have := (hrow.dr (.one w 1)).alloc (.cells (xs.toArray ++ [v].toArray ++ Builtin.zeroCells z.cells (grownCap w (n + 1) cap e - (n + 1))) e)
    exact this.cell j hj

set_option maxRecDepth 100000 in
theorem step_push2 {t e : TypeId} {z : Value} {by' : Nat} (h1 : Try.prog.underlying t = some (.slice e)) (h2 : (Try.prog.info? e).map (fun i => (i.zero, i.size, i.bytes)) = some (some z, 1, by'))
    {ops : Array Oper} {o : Oper} {a : Act} {K : Act → World → Prop} {Q : Exit → Act → World → Prop} {E : Prop} {w W : World} (hgd : o.guard = none) (s x : Operand)
    (ho : o.op = .call { callee := .builtin .append, args := #[s, x], argTypes := #[t, t] })
    (v : Value) (hW : Dr (w.alloc (.cells #[v] e)) W)
    (G cap : Nat) (xs : List Value) (n : Nat) (hs : a.eval s = .slice (some ⟨G, 0, none⟩) n cap) (hn : xs.length = n) (hrow : Row w G e cap xs)
    (hx : a.eval x = .slice (some ⟨w.heap.size, 0, none⟩) 1 1) (hv : v.oneCell' = true) (hsm : n + 1 ≤ 2000000) (hby : by' ≤ 64) (hzc : z.cells.size = 1)
    (B : Nat) (w0 : World) (hB : Below B w0 w) (hsz : B ≤ w.heap.size) (hG : B ≤ G)
    (h : ∀ G' cap' w', Row w' G' e cap' (xs ++ [v]) → Below B w0 w' → B ≤ G' → (∀ g c T vs, Row w g T c vs → g ≠ G → Row w' g T c vs ∧ g ≠ G') → (∀ j (hj : j < xs.length), w'.cell? ⟨G, j, none⟩ = some xs[j]) → K (a.put o.dst (.slice (some ⟨G', 0, none⟩) (n + 1) cap')) w') :
    if Region.wanted o (yielded ops a.tmps) = true then Oper.wp Try.prog o a W K Q else E := by
  obtain ⟨i2, hi2, hz0, hz1, hz2⟩ := info_parts h2
  have hr := (hrow.alloc (.cells #[v] e)).dr hW
  have hb : (n + 1) * by' ≤ 140737488355328 := Nat.le_trans (Nat.mul_le_mul hsm hby) (by decide)
  have hWs : W.heap.size = w.heap.size + 1 := by obtain ⟨q, rfl⟩ := hW; simp
  have hnews : ∀ j u, [v][j]? = some u → W.cell? ((⟨w.heap.size, 0, none⟩ : Addr).add j) = some u := by
    obtain ⟨q, rfl⟩ := hW
    exact cell_one_new w v e
  have hw : Region.wanted o (yielded ops a.tmps) = true := by simp [Region.wanted, hgd]
  rw [if_pos hw]
  obtain ⟨G', cap', w', hrun, q1, q2, q3, q4⟩ := run_push_at (P := Try.prog) W (ty := o.type) h1 hi2 hz0 hz1 hz2 hzc G cap xs n hn hr ⟨w.heap.size, 0, none⟩ 1 v hv hnews (by unfold maxLen; omega) hb
  unfold Oper.wp execOp
  simp only [ho, resolve, invoke, builtin, Sem.run_bind, Sem.run_pure, Result.andThen_ok, List.map_toArray, List.map_cons, List.map_nil, hs, hx, hrun]
  refine h G' cap' w' q1 ?_ ?_ ?_ q4
  · exact ((hB.alloc hsz _).trans hW.below).grown q2 (by rw [hWs]; omega) (fun k hk => by injection hk with hk; omega)
  · rcases q3 with q3 | q3 <;> omega
  · intro g' c T vs hr' hne
    have hl := hr'.lt
    refine ⟨((hr'.alloc _).dr hW).touch q2 hne, ?_⟩
    rcases q3 with q3 | q3 <;> omega

/-- Filled with -1 up to place q. -/
def fillL (NN q : Nat) : List Int := (List.range NN).map fun (p : Nat) => if p < q then -1 else 0
theorem fillL_len (NN q : Nat) : (fillL NN q).length = NN := by simp [fillL]
theorem fillL_zero (NN : Nat) : fillL NN 0 = List.replicate NN 0 := by
  refine List.ext_getElem (by simp [fillL]) fun p h1 h2 => ?_
  simp [fillL]
theorem fillL_all (NN : Nat) : fillL NN NN = List.replicate NN (-1) := by
  refine List.ext_getElem (by simp [fillL]) fun p h1 h2 => ?_
  have : p < NN := by simpa [fillL] using h1
  simp [fillL, this]
theorem fillL_set {NN q : Nat} : (fillL NN q).set q (-1) = fillL NN (q + 1) := by
  refine List.ext_getElem (by simp [fillL]) fun p h1 h2 => ?_
  rw [List.getElem_set]
  simp only [fillL, List.getElem_map, List.getElem_range]
  by_cases h : q = p
  · subst h; rw [if_pos rfl, if_pos (by omega)]
  · rw [if_neg h]
    by_cases h3 : p < q
    · rw [if_pos h3, if_pos (by omega)]
    · rw [if_neg h3, if_neg (by omega)]

theorem cst_neg {e : Batch.Ent} (h : ∀ v, e = some v → 0 ≤ v.1) : Batch.cst e < 0 ↔ e = none := by
  cases e with
  | none => simp [Batch.cst]
  | some v => have := h v rfl; simp only [Batch.cst, reduceCtorEq, iff_false]; omega
/-- What one more size does to the least cost. -/
theorem fold_cst {S : Batch.Bp} {T : Nat → Batch.Ent} {k b s : Nat} (hT : ∀ v, T (k - (s + 1)) = some v → 0 ≤ v.1) (hF : ∀ v, S.fold T k b s = some v → 0 ≤ v.1) :
    (Batch.cst (T (k - (s + 1))) < 0 → Batch.cst (S.fold T k b (s + 1)) = Batch.cst (S.fold T k b s)) ∧
    (0 ≤ Batch.cst (T (k - (s + 1))) → Batch.cst (S.fold T k b (s + 1)) = if Batch.cst (S.fold T k b s) < 0 ∨ Batch.cst (T (k - (s + 1))) + S.w k (s + 1) b < Batch.cst (S.fold T k b s) then Batch.cst (T (k - (s + 1))) + S.w k (s + 1) b else Batch.cst (S.fold T k b s)) := by
  constructor
  · intro h
    have := (cst_neg hT).1 h
    simp only [Batch.Bp.fold, this, Batch.Bp.ext]
    cases S.fold T k b s <;> rfl
  · intro h
    cases hx : T (k - (s + 1)) with
    | none => rw [hx] at h; simp [Batch.cst] at h
    | some v =>
      have e : Batch.cst (S.ext k (s + 1) b (some v)) = v.1 + S.w k (s + 1) b := rfl
      simp only [Batch.Bp.fold, hx]
      rw [Batch.Bp.better_cost hF (by simp [Batch.Bp.ext]), e]
      rfl

/-- The rows of sums and the flat table. -/
structure Tb (js : List J) (U : Nat) (w : World) (n GT cT GW cW GC NN : Nat) (L : List Int) (w' : World) : Prop where
  p : Pre js U w n GT cT GW cW w'
  r : Rw w' GC NN L
  nt : GT ≠ GC
  nw : GW ≠ GC
  uc : U ≤ GC
section
variable {js : List J} {U n GT cT GW cW GC NN : Nat} {w : World} {L : List Int}
theorem Tb.keep {a b : World} (h : Tb js U w n GT cT GW cW GC NN L a) (hb : Below a.heap.size a b) : Tb js U w n GT cT GW cW GC NN L b :=
  ⟨h.p.keep hb, h.r.below hb h.r.lt, h.nt, h.nw, h.uc⟩
theorem Tb.dr {a b : World} (h : Tb js U w n GT cT GW cW GC NN L a) (hd : Dr a b) : Tb js U w n GT cT GW cW GC NN L b := h.keep hd.below
theorem Tb.cset {a : World} (h : Tb js U w n GT cT GW cW GC NN L a) (q : Nat) (v : Int) : Tb js U w n GT cT GW cW GC NN (L.set q v) (a.setCell ⟨GC, q, none⟩ (.int .i64 v)) :=
  ⟨h.p.set _ h.nt h.nw h.uc, h.r.set q v, h.nt, h.nw, h.uc⟩
theorem Tb.to {a : World} {L' : List Int} (h : Tb js U w n GT cT GW cW GC NN L a) (e : L = L') : Tb js U w n GT cT GW cW GC NN L' a := e ▸ h
theorem Tb.cell {a : World} (h : Tb js U w n GT cT GW cW GC NN L a) (hl : L.length = NN) {q : Nat} (hq : q < NN) : a.cell? ⟨GC, q, none⟩ = some (.int .i64 (L.getD q 0)) := h.r.cell q (by omega)

/-- A block of its own beside those. -/
structure Own (U GT GW GC G : Nat) : Prop where
  u : U ≤ G
  t : GT ≠ G
  w : GW ≠ G
  c : GC ≠ G
theorem Tb.own {a : World} (h : Tb js U w n GT cT GW cW GC NN L a) {G : Nat} (hG : a.heap.size ≤ G) : Own U GT GW GC G :=
  ⟨by have := h.p.sz; omega, by have := h.p.rt.lt; omega, by have := h.p.rw.lt; omega, by have := h.r.lt; omega⟩
theorem Tb.push {a b : World} {o : Obj} {G G' : Nat} (h : Tb js U w n GT cT GW cW GC NN L a) (ho : Own U GT GW GC G) (hlt : G < a.heap.size) (ht : Touch G (a.alloc o) b) (hat : G' = G ∨ G' = a.heap.size + 1) :
    Tb js U w n GT cT GW cW GC NN L b ∧ Own U GT GW GC G' ∧ ∀ g c ys, Rw a g c ys → g ≠ G → Rw b g c ys ∧ g ≠ G' := by
  have hb : Below U w b := (h.p.b.alloc h.p.sz _).trans (ht.below ho.u (by have := h.p.sz; simp; omega))
  have key : ∀ g c ys, Rw a g c ys → g ≠ G → Rw b g c ys ∧ g ≠ G' := fun g c ys h2 h3 => by
    refine ⟨(h2.alloc _).touch ht h3, ?_⟩
    have := h2.lt
    rcases hat with rfl | rfl
    · exact h3
    · omega
  obtain ⟨k1, k2⟩ := key _ _ _ h.p.rt ho.t
  obtain ⟨k3, k4⟩ := key _ _ _ h.p.rw ho.w
  obtain ⟨k5, k6⟩ := key _ _ _ h.r ho.c
  refine ⟨⟨⟨k1, k3, h.p.ne, hb, h.p.ut, h.p.uw⟩, k5, h.nt, h.nw, h.uc⟩, ⟨?_, k2, k4, k6⟩, key⟩
  have := h.p.sz
  have := ho.u
  rcases hat with rfl | rfl <;> omega
end

/-- Numbers as integers. -/
def zl (bs : List Nat) : List Int := bs.map fun (b : Nat) => (b : Int)
theorem zl_len (bs : List Nat) : (zl bs).length = bs.length := by simp [zl]
theorem zl_append (bs cs : List Nat) : zl (bs ++ cs) = zl bs ++ zl cs := by simp [zl]
theorem zl_get {bs : List Nat} {i : Nat} (h : i < bs.length) : (zl bs).getD i 0 = ((bs[i] : Nat) : Int) := by
  rw [List.getD_eq_getElem?_getD, List.getElem?_eq_getElem (by rw [zl_len]; exact h)]
  simp [zl]
theorem min_nat (a b : Nat) : min (a : Int) (b : Int) = ((min a b : Nat) : Int) := by omega

/-- What one batch costs, in letters. -/
theorem BpOk.cost {js : List J} {ch : Int} {S : Batch.Bp} {n : Nat} (h : BpOk js ch S n) {k z d b : Nat} (hk : k ≤ n) (hb : b ≤ n) (hd : k = d + z) :
    ∃ u v x pr : Int, wtB js k - wtB js d = u ∧ (b : Int) * ch = v ∧ v + tmB js k = x ∧ u * x = pr ∧ S.w k z b = pr ∧ 0 ≤ u ∧ u ≤ 240000 ∧ 0 ≤ v ∧ v ≤ 240000 ∧ 0 ≤ x ∧ x ≤ 480000 ∧ 0 ≤ pr ∧ pr ≤ 115200000000 := by
  have e := h.w k z b
  have h1 := h.hw k z b
  have h2 := h.wb k z b hk hb
  have ed : k - z = d := by omega
  have h3 := h.mono k z
  have h4 := h.wt k hk
  have h5 := h.wt d (by omega)
  have h6 := h.tm k hk
  rw [ed] at e h3
  have hn := h.n2
  have h7 : (b : Int) * ch ≤ 24 * 10000 := Int.mul_le_mul (by omega) h.c1 h.c0 (by omega)
  have h8 : 0 ≤ (b : Int) * ch := Int.mul_nonneg (by omega) h.c0
  exact ⟨_, _, _, _, rfl, rfl, rfl, rfl, e, by omega, by omega, h8, by omega, by omega, by omega, by rw [← e]; exact h1, by rw [← e]; exact h2⟩
theorem BpOk.tb {js : List J} {ch : Int} {S : Batch.Bp} {n : Nat} (h : BpOk js ch S n) {b k : Nat} (hb : b ≤ n) (hk : k ≤ n) : -1 ≤ Batch.cst (S.T b k) ∧ Batch.cst (S.T b k) ≤ 115200000000 :=
  Batch.Bp.cst_bd (fun c l e => h.T b k c l hb hk e) (by decide)
theorem BpOk.fb {js : List J} {ch : Int} {S : Batch.Bp} {n : Nat} (h : BpOk js ch S n) {b k : Nat} (s : Nat) (hb : b + 1 ≤ n) (hk : k ≤ n) : -1 ≤ Batch.cst (S.fold (S.T b) k (b + 1) s) ∧ Batch.cst (S.fold (S.T b) k (b + 1) s) ≤ 115200000000 :=
  Batch.Bp.cst_bd (fun c l e => h.F b k s c l hb hk e) (by decide)
theorem BpOk.step {js : List J} {ch : Int} {S : Batch.Bp} {n : Nat} (h : BpOk js ch S n) {b k s d : Nat} (hb : b + 1 ≤ n) (hk : k ≤ n) (hd : k = d + (s + 1)) :
    (Batch.cst (S.T b d) < 0 → Batch.cst (S.fold (S.T b) k (b + 1) (s + 1)) = Batch.cst (S.fold (S.T b) k (b + 1) s)) ∧
    (0 ≤ Batch.cst (S.T b d) → Batch.cst (S.fold (S.T b) k (b + 1) (s + 1)) = if Batch.cst (S.fold (S.T b) k (b + 1) s) < 0 ∨ Batch.cst (S.T b d) + S.w k (s + 1) (b + 1) < Batch.cst (S.fold (S.T b) k (b + 1) s) then Batch.cst (S.T b d) + S.w k (s + 1) (b + 1) else Batch.cst (S.fold (S.T b) k (b + 1) s)) := by
  have e : d = k - (s + 1) := by omega
  subst e
  exact fold_cst (fun v hv => (h.T b _ v.1 v.2 (by omega) (by omega) hv).1) (fun v hv => (h.F b k s v.1 v.2 hb hk hv).1)

/-- A place of the flat table. -/
theorem place {n k1 NN d b : Nat} (h1 : n + 1 = k1) (hN : k1 * k1 = NN) (hd : d ≤ n) (hb : b ≤ n) : d * k1 + b < NN := by
  have : (d + 1) * k1 ≤ k1 * k1 := Nat.mul_le_mul_right _ (by omega)
  rw [Nat.add_mul, Nat.one_mul] at this
  omega
theorem place_lt {k1 d k b c : Nat} (hb : b < k1) (hd : d < k) : d * k1 + b < k * k1 + c := by
  have : (d + 1) * k1 ≤ k * k1 := Nat.mul_le_mul_right _ (by omega)
  rw [Nat.add_mul, Nat.one_mul] at this
  omega
end Go.Proofs.Ytncmhinpjkkfkaa
