/-
  Walks: the least parting to batches: the program's function. Conditions: none.
-/
import Derived.Test.YtncmhinpjkkfkaaK66
set_option linter.unusedVariables false
set_option linter.unusedSimpArgs false
namespace Go.Proofs.Ytncmhinpjkkfkaa
open Go Go.RowKit

theorem Try.info91 : (Try.prog.info? 91).map (fun i => (i.zero, i.size, i.bytes)) = some (some (.slice none 0 0), 1, 24) := by kernel_rfl

theorem jrd_at {js : List J} {g n : Nat} {w : World} (hn : js.length = n) (hj : JRd w g 0 js) (i : Nat) (hi : i < n) : w.cell? ⟨g, i * 4, none⟩ = some (.int .i64 (jN js i).time) ∧ w.cell? ⟨g, i * 4 + 1, none⟩ = some (.int .i64 (jN js i).rel) ∧ w.cell? ⟨g, i * 4 + 2, none⟩ = some (.int .i64 (jN js i).due) ∧ w.cell? ⟨g, i * 4 + 3, none⟩ = some (.int .i64 (jN js i).wt) := by
  have h := hj i (by omega)
  rw [Nat.zero_add] at h
  rw [jN_eq (by omega)]
  exact h

theorem Row.ne_type {w : World} {g g' c c' : Nat} {T T' : TypeId} {vs vs' : List Value} (h : Row w g T c vs) (h' : Row w g' T' c' vs') (hT : T ≠ T') : g ≠ g' := by
  rintro rfl
  obtain ⟨cur, h1, _⟩ := h
  obtain ⟨cur', h1', _⟩ := h'
  rw [h1] at h1'
  injection h1' with h1'
  injection h1' with _ h1' _
  exact hT h1'

theorem SzA.box {w : World} {B GX : Nat} {vs : List Value} (hx : Row w GX 93 3 vs) {sv : Value} {l : List Int} (h : SzA w B sv l) (j : Nat) (u : Value) : SzA (w.setCell ⟨GX, j, none⟩ u) B sv l := by
  rcases h with h | ⟨G, c, h1, h2, h3, h4⟩
  · exact .inl h
  · exact .inr ⟨G, c, h1, h2, h3.other (by show G ≠ GX; exact Row.ne_type h3 hx (by decide)) u, h4⟩
theorem Pb.box {js : List J} {U n GT cT GW cW B GO N GX : Nat} {w a : World} {R : Nat → Nat} {E : Nat → Nat → Batch.Ent} {vs : List Value} (h : Pb js U w n GT cT GW cW B GO N R E a) (hx : Row a GX 93 3 vs) (hB : B ≤ GX) (j : Nat) (u : Value) :
    Pb js U w n GT cT GW cW B GO N R E (a.setCell ⟨GX, j, none⟩ u) := by
  have h1 := h.t.ob
  have h2 := h.gt
  have h3 := h.gw
  have h4 := h.t.u
  exact ⟨h.p.set _ (by omega) (by omega) (by omega), h.t.past (by show GO ≠ GX; omega) (fun i hi => by have := h.t.lt i hi; show R i ≠ GX; omega) (fun sv l hs u => hs.box hx j u) u, h.gt, h.gw⟩

theorem best_list {S : Batch.Bp} (hw : ∀ k s b, 0 ≤ S.w k s b) (hm : 1 ≤ S.most) {n : Nat} (hn : n ≠ 0) :
    1 ≤ (Batch.szs (Batch.Bp.best S n (n + 1))).length ∧ (Batch.szs (Batch.Bp.best S n (n + 1))).length ≤ n ∧ ec (Batch.Bp.best S n (n + 1)) = Batch.Bp.least S n (n + 1) := by
  obtain ⟨a, b, c, d⟩ := Batch.Bp.start hw hm hn
  obtain ⟨x, hx, e⟩ := List.mem_map.1 b.1
  obtain ⟨s0, _, _, _, _, h5, _⟩ := Batch.Bp.T_first hn (a.2 x hx) hw
  have h6 := ((Batch.Bp.mem_some _).1 hx).1
  have h7 := Batch.Bp.szs_len (S := S) x n
  refine ⟨?_, ?_, ?_⟩
  · rw [← e, h5]; simp
  · rw [← e]; omega
  · rw [← c]
    cases h : Batch.Bp.best S n (n + 1) with
    | none => rw [h] at c; simp only [Batch.cst] at c; omega
    | some v => rfl
theorem best_len {S : Batch.Bp} {n : Nat} : ∀ m, m ≤ n + 1 → (Batch.szs (Batch.Bp.best S n m)).length ≤ n
  | 0, _ => by simp [Batch.Bp.best, Batch.szs]
  | m + 1, h => by
    have ih := best_len (S := S) (n := n) m (by omega)
    have h2 := Batch.Bp.szs_len (S := S) m n
    have key : ∀ a b : Batch.Ent, Batch.better a b = a ∨ Batch.better a b = b := fun a b => by
      cases b with
      | none => left; cases a <;> rfl
      | some x =>
        cases a with
        | none => right; rfl
        | some y => simp only [better_some]; split <;> simp
    show (Batch.szs (Batch.better (Batch.Bp.best S n m) (S.T m n))).length ≤ n
    rcases key (Batch.Bp.best S n m) (S.T m n) with e | e
    · rw [e]; exact ih
    · rw [e]; omega

theorem set3_far {W : World} {Rk b G : Nat} {u1 u2 u3 : Value} (h : Rk ≠ G) (j : Nat) : (((W.setCell ⟨Rk, b * 3, none⟩ u1).setCell ⟨Rk, b * 3 + 1, none⟩ u2).setCell ⟨Rk, b * 3 + 2, none⟩ u3).cell? ⟨G, j, none⟩ = W.cell? ⟨G, j, none⟩ := by
  rw [World.cell?_setCell_far _ _ _ _ (by exact h), World.cell?_setCell_far _ _ _ _ (by exact h), World.cell?_setCell_far _ _ _ _ (by exact h)]
theorem RowE.there {w W : World} {B Rk N b : Nat} {E : Nat → Batch.Ent} (h : RowE w B Rk N E) (hB : Below w.heap.size w W) (hb : b < N) :
    (∃ v, W.cell? ⟨Rk, b * 3, none⟩ = some v) ∧ (∃ v, W.cell? ⟨Rk, b * 3 + 1, none⟩ = some v) ∧ (∃ v, W.cell? ⟨Rk, b * 3 + 2, none⟩ = some v) ∧ W.frozen? ⟨Rk, b * 3, none⟩ = false ∧ W.frozen? ⟨Rk, b * 3 + 1, none⟩ = false ∧ W.frozen? ⟨Rk, b * 3 + 2, none⟩ = false := by
  have h' := h.below hB
  obtain ⟨a1, a2, sv, a3, _⟩ := h'.ent hb
  exact ⟨⟨_, a1⟩, ⟨_, a2⟩, ⟨_, a3⟩, h'.free _, h'.free _, h'.free _⟩
theorem RowE.ne_box {w : World} {B Rk GN N : Nat} {E : Nat → Batch.Ent} {vs : List Value} (h : RowE w B Rk N E) (hx : Row w GN 93 3 vs) (hN : 2 ≤ N) : Rk ≠ GN := by
  rintro rfl
  obtain ⟨cs, ⟨cur, h5, h6, _⟩, _⟩ := h
  obtain ⟨cur', h7, h8, _⟩ := hx
  rw [h5] at h7
  injection h7 with h7
  injection h7 with h7 _ _
  subst h7
  omega
theorem now_keep {w W : World} {GO N k GN : Nat} {R : Nat → Nat} {x y z : Value} (ho : OutR w GO N N R) (hn : Row w GN 93 3 [x, y, z]) (hk : k < N) (hb : Below w.heap.size w W) :
    W.cell? ⟨GO, k, none⟩ = some (.slice (some ⟨R k, 0, none⟩) N N) ∧ W.cell? ⟨GN, 0, none⟩ = some x ∧ W.cell? ⟨GN, 1, none⟩ = some y ∧ W.cell? ⟨GN, 2, none⟩ = some z :=
  ⟨(ho.below hb).get hk, (hn.below hb hn.lt).three⟩
theorem now_set {w W : World} {GO N k GN Rk b : Nat} {R : Nat → Nat} {x y z u1 u2 u3 : Value} (ho : OutR w GO N N R) (hn : Row w GN 93 3 [x, y, z]) (hk : k < N) (hb : Below w.heap.size w W) (h1 : Rk ≠ GO) (h2 : Rk ≠ GN) :
    (((W.setCell ⟨Rk, b * 3, none⟩ u1).setCell ⟨Rk, b * 3 + 1, none⟩ u2).setCell ⟨Rk, b * 3 + 2, none⟩ u3).cell? ⟨GO, k, none⟩ = some (.slice (some ⟨R k, 0, none⟩) N N) ∧ (((W.setCell ⟨Rk, b * 3, none⟩ u1).setCell ⟨Rk, b * 3 + 1, none⟩ u2).setCell ⟨Rk, b * 3 + 2, none⟩ u3).cell? ⟨GN, 0, none⟩ = some x ∧ (((W.setCell ⟨Rk, b * 3, none⟩ u1).setCell ⟨Rk, b * 3 + 1, none⟩ u2).setCell ⟨Rk, b * 3 + 2, none⟩ u3).cell? ⟨GN, 1, none⟩ = some y ∧ (((W.setCell ⟨Rk, b * 3, none⟩ u1).setCell ⟨Rk, b * 3 + 1, none⟩ u2).setCell ⟨Rk, b * 3 + 2, none⟩ u3).cell? ⟨GN, 2, none⟩ = some z := by
  obtain ⟨a1, a2, a3, a4⟩ := now_keep ho hn hk hb
  exact ⟨(set3_far h1 k).trans a1, (set3_far h2 0).trans a2, (set3_far h2 1).trans a3, (set3_far h2 2).trans a4⟩
set_option maxRecDepth 100000 in
theorem better_now {e1 e3 : Batch.Ent} {cn : Int} {lz l3 : List Int} {w W : World} {B m1 c1 G4 mz cap4 : Nat} {A1 : Option Addr} {f1 f3 : Bool} {g1 g3 : Int} (hf : eb e1 = f1) (hg : ec e1 = g1) (hm : (Batch.szs e1).length = m1)
    (h1 : SzA w B (.slice A1 (Batch.szs e1).length c1) (Batch.szs e1)) (h2 : SzA w B (.slice (some ⟨G4, 0, none⟩) mz cap4) lz) (l1 : (Batch.szs e1).length ≤ 1000) (l2 : lz.length ≤ 1000) (he : e3 = Batch.better e1 (some (cn, lz))) (hf3 : eb e3 = f3) (hg3 : ec e3 = g3) (hl3 : Batch.szs e3 = l3) (hb : Below w.heap.size w W) :
    Calls Try.prog 116 #[.agg #[.bool f1, .int .i64 g1, .slice A1 m1 c1], .agg #[.bool true, .int .i64 cn, .slice (some ⟨G4, 0, none⟩) mz cap4]] W (fun en w' => ∃ A c m, en = .returned (.agg #[.bool f3, .int .i64 g3, .slice A m c]) ∧ SzA w' B (.slice A m c) l3 ∧ Below W.heap.size W w') := by
  have h1' := h1.below hb
  have h2' : SzA W B (.slice (some ⟨G4, 0, none⟩) mz cap4) (Batch.szs (some (cn, lz))) := h2.below hb
  have h := better_any2 e1 (some (cn, lz)) _ _ W h1'.sz h2'.sz l1 l2
  have q1 : eb (some (cn, lz)) = true := rfl
  have q2 : ec (some (cn, lz)) = cn := rfl
  rw [hf, hg, q1, q2] at h
  subst hm
  refine Calls.mono h fun en w' hq => ?_
  obtain ⟨A', c', e', hs', hb'⟩ := hq.sizes h1' h2'
  rw [← he] at e' hs'
  rw [hf3, hg3] at e'
  rw [hl3] at e' hs'
  exact ⟨A', c', _, e', hs', hb'⟩

/-- The box of the best one so far. -/
def BoxB (S : Batch.Bp) (n B GX : Nat) (w : World) (m : Nat) : Prop :=
  ∃ A c, Row w GX 93 3 [.bool (eb (Batch.Bp.best S n m)), .int .i64 (ec (Batch.Bp.best S n m)), .slice A (Batch.szs (Batch.Bp.best S n m)).length c] ∧ SzA w B (.slice A (Batch.szs (Batch.Bp.best S n m)).length c) (Batch.szs (Batch.Bp.best S n m))
theorem box_put {js : List J} {S : Batch.Bp} {U n GT cT GW cW B GO N GX m : Nat} {w a W : World} {R : Nat → Nat} {E : Nat → Nat → Batch.Ent} {x y z : Value} (h : Pb js U w n GT cT GW cW B GO N R E a) (hx : Row a GX 93 3 [x, y, z]) (hB : B ≤ GX) (hb : Below a.heap.size a W) {e3 : Batch.Ent} (he : Batch.Bp.best S n (m + 1) = e3) {A : Option Addr} {c : Nat} (hs : SzA W B (.slice A (Batch.szs e3).length c) (Batch.szs e3)) :
    Pb js U w n GT cT GW cW B GO N R E (((W.setCell ⟨GX, 0, none⟩ (.bool (eb e3))).setCell ⟨GX, 1, none⟩ (.int .i64 (ec e3))).setCell ⟨GX, 2, none⟩ (.slice A (Batch.szs e3).length c)) ∧ BoxB S n B GX (((W.setCell ⟨GX, 0, none⟩ (.bool (eb e3))).setCell ⟨GX, 1, none⟩ (.int .i64 (ec e3))).setCell ⟨GX, 2, none⟩ (.slice A (Batch.szs e3).length c)) (m + 1) := by
  subst he
  have h0 := h.keep hb
  have r0 := hx.below hb hx.lt
  have r1 := r0.set 0 (.bool (eb (Batch.Bp.best S n (m + 1))))
  have r2 := r1.set 1 (.int .i64 (ec (Batch.Bp.best S n (m + 1))))
  have r3 := r2.set 2 (.slice A (Batch.szs (Batch.Bp.best S n (m + 1))).length c)
  exact ⟨((h0.box r0 hB 0 _).box r1 hB 1 _).box r2 hB 2 _, A, c, r3, ((hs.box r0 0 _).box r1 1 _).box r2 2 _⟩
set_option maxRecDepth 100000 in
theorem better_two {e1 e2 e3 : Batch.Ent} {w W : World} {B m1 c1 m2 c2 : Nat} {A1 A2 : Option Addr} {f1 f2 : Bool} {g1 g2 : Int} (hf : eb e1 = f1) (hg : ec e1 = g1) (hm : (Batch.szs e1).length = m1) (hf2 : eb e2 = f2) (hg2 : ec e2 = g2) (hm2 : (Batch.szs e2).length = m2)
    (h1 : SzA w B (.slice A1 (Batch.szs e1).length c1) (Batch.szs e1)) (h2 : SzA w B (.slice A2 (Batch.szs e2).length c2) (Batch.szs e2)) (l1 : (Batch.szs e1).length ≤ 1000) (l2 : (Batch.szs e2).length ≤ 1000) (he : e3 = Batch.better e1 e2) (hb : Below w.heap.size w W) :
    Calls Try.prog 116 #[.agg #[.bool f1, .int .i64 g1, .slice A1 m1 c1], .agg #[.bool f2, .int .i64 g2, .slice A2 m2 c2]] W (fun en w' => ∃ A c m, en = .returned (.agg #[.bool (eb e3), .int .i64 (ec e3), .slice A m c]) ∧ (Batch.szs e3).length = m ∧ SzA w' B (.slice A (Batch.szs e3).length c) (Batch.szs e3) ∧ Below W.heap.size W w') := by
  have h1' := h1.below hb
  have h2' := h2.below hb
  have h := better_any2 e1 e2 _ _ W h1'.sz h2'.sz l1 l2
  subst hf hg hm hf2 hg2 hm2
  refine Calls.mono h fun en w' hq => ?_
  obtain ⟨A', c', e', hs', hb'⟩ := hq.sizes h1' h2'
  rw [← he] at e' hs'
  exact ⟨A', c', _, e', rfl, hs', hb'⟩

set_option maxHeartbeats 8000000 in
set_option maxRecDepth 100000 in
theorem implBP_yes (w : World) (g n c : Nat) (js : List J) (hn : js.length = n) (hcap : n ≤ c) (hm : n ≤ 1048576) (hj : JRd w g 0 js) (hg : g < w.heap.size) (ch : Int) (c0 : -9223372036854775808 ≤ ch) (c1 : ch ≤ 9223372036854775807) (most : Int) (m0 : -9223372036854775808 ≤ most) (m1 : most ≤ 9223372036854775807) (hc : bpB js ch most = true) :
    Calls Try.prog 66 #[.slice (some ⟨g, 0, none⟩) n c, .int .i64 ch, .int .i64 most] w (BpP js ch most w) := by
  have hok := bpOk hc
  have hhc := hc
  unfold bpB at hhc
  simp only [Bool.and_eq_true] at hhc
  obtain ⟨hao, hin, him⟩ := hhc
  have hao2 := hao
  unfold aoB at hao2
  simp only [Bool.and_eq_true] at hao2
  have hjok := (jobsB_ok hao2.1).2.2
  have hb2 := inB_lo hin
  have hb3 := inB_lo him
  obtain ⟨S, hS⟩ : ∃ S, bpS js ch most = S := ⟨_, rfl⟩
  obtain ⟨ms, hms⟩ : ∃ ms : Nat, most = (ms : Int) := ⟨most.toNat, by omega⟩
  have hSm : S.most = ms := by rw [← hS]; show most.toNat = ms; omega
  have hfin : ∀ w' G cap, Rw w' G cap (Batch.szs (Batch.Bp.best S n (n + 1))).reverse → w.heap.size ≤ G → Below w.heap.size w w' → ∀ l, l = (Batch.szs (Batch.Bp.best S n (n + 1))).reverse.length → BpP js ch most w (.returned (.tuple #[.slice (some ⟨G, 0, none⟩) l cap, .int .i64 (Batch.Bp.least S n (n + 1)), .bool true])) w' := by
    intro w' G cap h1 h2 h3 l hl
    subst hl
    unfold BpP bpL bpV
    rw [hS, hn]
    exact ⟨G, cap, rfl, h1, h2, h3⟩
  rw [hS, hn] at hok
  have hCell : ∀ w1, JRd w1 g 0 js → ∀ k, k < n → ∃ tv rv uv wv : Int, w1.cell? ⟨g, k * 4, none⟩ = some (.int .i64 tv) ∧ w1.cell? ⟨g, k * 4 + 1, none⟩ = some (.int .i64 rv) ∧ w1.cell? ⟨g, k * 4 + 2, none⟩ = some (.int .i64 uv) ∧ w1.cell? ⟨g, k * 4 + 3, none⟩ = some (.int .i64 wv) ∧ 1 ≤ tv ∧ tv ≤ 10000 ∧ 0 ≤ wv ∧ wv ≤ 10000 ∧ tmB js k + tv = tmB js (k + 1) ∧ wtB js k + wv = wtB js (k + 1) := by
    intro w1 h1 k hk
    have hk' : k < js.length := by omega
    obtain ⟨d0, d1, d2, d3⟩ := jrd_at hn h1 k hk
    have e := jN_eq hk'
    have ho := hjok k hk'
    rw [← e] at ho
    obtain ⟨a1, a2, a3, a4, a5, a6, a7, a8⟩ := ho
    exact ⟨_, _, _, _, d0, d1, d2, d3, a1, a2, a7, a8, rfl, rfl⟩
  have HCELL := Lib.hid hCell; have HFIN := Lib.hid hfin; have HOK := Lib.hid hok; have HSM := Lib.hid hSm
  have HAO := Lib.hid hao; have HIN := Lib.hid hin; have HIM := Lib.hid him; have HN := Lib.hid hn; have HJ := Lib.hid hj
  have n1 := hok.n1; have n2 := hok.n2; have s1 := hok.m1; have s2 := hok.m2
  rw [hSm] at s1 s2
  clear hok hCell hfin hao hao2 hin him hn hj hc hjok hb3 hSm hS m0 m1
  subst hms
  go_enter Try.func66, Try.ntmps66
  go_wp2_with fail
  go_at_call 115
  refine (areAtOnce_any g n c js _ HN.out hm HJ.out hg).mono ?_
  rintro e w1 ⟨rfl, hb1⟩
  have HB1 := Lib.hid hb1
  clear hb1
  rw [HAO.out]
  go_wp2_with fail
  go_at_call 71
  refine (within_any _ _ _ _).mono ?_
  rintro e w' ⟨rfl, rfl⟩
  rw [HIN.out]
  go_wp2_with fail
  go_at_call 71
  refine (within_any _ _ _ _).mono ?_
  rintro e w' ⟨rfl, rfl⟩
  rw [HIM.out]
  go_wp2_with fail
  obtain ⟨U, hU⟩ : ∃ U, w.heap.size = U := ⟨_, rfl⟩
  have HU := Lib.hid hU
  obtain ⟨V, hV⟩ : ∃ V, w1.heap.size = V := ⟨_, rfl⟩
  have hUV : U ≤ V := by have := HB1.out.size; omega
  have P0 : Hid (Pre js U w 0 V 1 (V + 1) 1 ((w1.alloc (.cells #[.int .i64 0] 2)).alloc (.cells #[.int .i64 0] 2))) := Lib.hid (by
    have h2 : Rw ((w1.alloc (.cells #[.int .i64 0] 2)).alloc (.cells #[.int .i64 0] 2)) (w1.heap.size + 1) 1 (preL (wtB js) 0) := by
      have := preL_zero (f := wtB js) (w := w1.alloc (.cells #[.int .i64 0] 2)) rfl
      simpa using this
    rw [hV] at h2
    have h1 : Rw (w1.alloc (.cells #[.int .i64 0] 2)) V 1 (preL (tmB js) 0) := by rw [← hV]; exact preL_zero rfl
    have hb : Below U w w1 := by rw [← hU]; exact HB1.out
    exact ⟨h1.alloc _, h2, by omega, (hb.alloc (by omega) _).alloc (by simp; omega) _, hUV, by omega⟩)
  obtain ⟨wp, hwp⟩ : ∃ wp, ((w1.alloc (.cells #[.int .i64 0] 2)).alloc (.cells #[.int .i64 0] 2)) = wp := ⟨_, rfl⟩
  rw [hwp] at P0 ⊢
  try rw [hV]
  rw [hU] at hg
  clear hwp hU hV HB1
  go_loopw [10, 11, 12, 13, 44] (fun t wv _ _ i w1 => ∃ k k1 GT cT GW cW : Nat, k ≤ n ∧ k1 = k + 1 ∧ i = .int .i64 k ∧ t = .slice (some ⟨GT, 0, none⟩) k1 cT ∧ wv = .slice (some ⟨GW, 0, none⟩) k1 cW ∧ Pre js U w k GT cT GW cW w1) (fun _ _ _ _ i _ => n - (intOf i).toNat)
  case atStart => exact ⟨0, 1, V, 1, V + 1, 1, by omega, rfl, rfl, rfl, rfl, P0.out⟩
  case round =>
    obtain ⟨k, k1, GT, cT, GW, cW, hk, hk1, rfl, rfl, rfl, hp⟩ := hrel
    have HK1 := Lib.hid hk1
    have HP := Lib.hid hp
    clear hp P0
    by_cases hlt : k < n
    · as_aux_lemma =>
        obtain ⟨tv, rv, uv, wv, e0, e1, e2, e3, t0, t1, v0, v1, ht, hw⟩ := HCELL.out _ (HJ.out.below HP.out.b hg) k hlt
        have HT := Lib.hid ht; have HW := Lib.hid hw
        obtain ⟨tb0, tb1⟩ := HOK.out.tm k hk
        obtain ⟨wb0, wb1⟩ := HOK.out.wt k hk
        have i2 : (k : Int) < (n : Int) := by omega
        clear ht hw
        go_wp2_with fail
        obtain ⟨GB, hGB⟩ : ∃ G, wr.heap.size = G := ⟨_, rfl⟩
        obtain ⟨wb, hwb⟩ : ∃ W, wr.alloc (.cells #[.int .i64 tv, .int .i64 rv, .int .i64 uv, .int .i64 wv] 67) = W := ⟨_, rfl⟩
        have RB : Hid (Row wb GB 67 4 [.int .i64 tv, .int .i64 rv, .int .i64 uv, .int .i64 wv]) := Lib.hid (by rw [← hwb]; exact row4 hGB.symm)
        have HPb : Hid (Pre js U w k GT cT GW cW wb) := Lib.hid (by rw [← hwb]; exact HP.out.keep (below_alloc (Below.refl _ _) _))
        have hneT : GT ≠ GB := by have := HP.out.rt.lt; omega
        have hneW : GW ≠ GB := by have := HP.out.rw.lt; omega
        have HNT := Lib.hid hneT; have HNW := Lib.hid hneW
        rw [hwb]
        try rw [hGB]
        clear hwb hGB HP hneT hneW e0 e1 e2 e3
        have ct := HPb.out.tc (Nat.le_refl k)
        have PT : Hid (Rw wb GT cT (preL (tmB js) k)) := Lib.hid HPb.out.rt
        have PW : Hid (Rw wb GW cW (preL (wtB js) k)) := Lib.hid HPb.out.rw
        have cb0 : wb.cell? ⟨GB, 0, none⟩ = some (.int .i64 tv) := RB.out.cell 0 (by simp)
        obtain ⟨ta, hta⟩ : ∃ v, tmB js k = v := ⟨_, rfl⟩
        obtain ⟨wa, hwa⟩ : ∃ v, wtB js k = v := ⟨_, rfl⟩
        rw [hta] at ct tb0 tb1 HT; rw [hwa] at wb0 wb1 HW
        have HTA := Lib.hid hta; have HWA := Lib.hid hwa
        clear hta hwa
        have i0 : (0 : Int) ≤ (k : Int) := by omega
        have i1 : (k : Int) < (k1 : Int) := by omega
        have i3 : IntKind.i64.wrap (ta + tv) = ta + tv := IntWalk.i64_in _ (by omega)
        have i4 : IntKind.i64.wrap (wa + wv) = wa + wv := IntWalk.i64_in _ (by omega)
        have HKA : Hid (∀ W, Dr (wb.alloc (.cells #[.int .i64 (ta + tv)] 2)) W → W.cell? ⟨GT, k, none⟩ = some (.int .i64 ta) ∧ W.cell? ⟨GB, 0, none⟩ = some (.int .i64 tv)) := Lib.hid (by
          rintro W ⟨q, rfl⟩
          exact ⟨(World.cell?_alloc_lt wb _ _ (by exact HPb.out.rt.lt)).trans ct, (World.cell?_alloc_lt wb _ _ (by exact RB.out.lt)).trans cb0⟩)
        have HKB : Hid (∀ W : World, (∀ j (hj : j < ((preL (tmB js) k).map (Value.int .i64)).length), W.cell? ⟨GT, j, none⟩ = some ((preL (tmB js) k).map (Value.int .i64))[j]) → W.cell? ⟨GT, k, none⟩ = some (.int .i64 ta)) := Lib.hid (by
          intro W h
          rw [h k (by simp [preL_len])]
          simp [preL, HTA.out])
        have HKC : Hid (∀ W : World, Row W GB 67 4 [.int .i64 tv, .int .i64 rv, .int .i64 uv, .int .i64 wv] → W.cell? ⟨GB, 0, none⟩ = some (.int .i64 tv) ∧ W.cell? ⟨GB, 3, none⟩ = some (.int .i64 wv)) := Lib.hid (fun W h => ⟨h.cell 0 (by simp), h.cell 3 (by simp)⟩)
        clear hk1
        go_region_held3 (fun w' => w'.cell? ⟨GT, k, none⟩ = some (.int .i64 ta) ∧ w'.cell? ⟨GB, 0, none⟩ = some (.int .i64 tv)) (first | exact ⟨ct, cb0⟩ | exact HKA.out _ (by first | exact Dr.refl _ | exact ⟨1, rfl⟩ | exact ⟨2, rfl⟩) | exact ⟨HKB.out _ HC3.out, (HKC.out _ HRB3.out).1⟩) (first
          | (refine step_push2 (w := wb) Try.underlying22 Try.info2 (by rfl) _ _ (by rfl) (.int .i64 (ta + tv)) (by first | exact Dr.refl _ | exact ⟨1, rfl⟩ | exact ⟨2, rfl⟩ | exact ⟨3, rfl⟩) GT cT ((preL (tmB js) k).map (Value.int .i64)) k1 (by rfl) (by rw [List.length_map, preL_len]; exact HK1.out.symm) PT.out (by rfl) rfl (by have := HK1.out; omega) (by decide) rfl U w HPb.out.b HPb.out.sz HPb.out.ut ?_; intro GT2 cT2 w4 hr3 hb3 hG3 hk3 hc3; obtain ⟨hrp3, hne3⟩ := hk3 _ _ _ _ PW.out (Ne.symm HPb.out.ne); obtain ⟨hrb3, hnb3⟩ := hk3 _ _ _ _ RB.out (Ne.symm HNT.out); have HRB3 := Lib.hid hrb3; have HR3 := Lib.hid hr3; have HB3 := Lib.hid hb3; have HRP3 := Lib.hid hrp3; have HNE3 := Lib.hid hne3; have HG3 := Lib.hid hG3; have HC3 := Lib.hid hc3; clear hr3 hb3 hrp3 hk3 hne3 hG3 hc3 hrb3 hnb3))
        have cw4 : w4.cell? ⟨GW, k, none⟩ = some (.int .i64 wa) := by
          have := Row.cell HRP3.out k (by simp [preL_len])
          rw [this]; simp [preL, HWA.out]
        have e34 : w4.cell? ⟨GB, 3, none⟩ = some (.int .i64 wv) := (HKC.out _ HRB3.out).2
        have HSZ4 : Hid (U ≤ w4.heap.size) := Lib.hid (by have := Row.lt HR3.out; have := HG3.out; omega)
        have HKB4 : Hid (∀ W : World, (∀ j (hj : j < ((preL (wtB js) k).map (Value.int .i64)).length), W.cell? ⟨GW, j, none⟩ = some ((preL (wtB js) k).map (Value.int .i64))[j]) → W.cell? ⟨GW, k, none⟩ = some (.int .i64 wa)) := Lib.hid (by
          intro W h
          rw [h k (by simp [preL_len])]
          simp [preL, HWA.out])
        have HKA4 : Hid (∀ W, Dr (w4.alloc (.cells #[.int .i64 (wa + wv)] 2)) W → W.cell? ⟨GW, k, none⟩ = some (.int .i64 wa) ∧ W.cell? ⟨GB, 3, none⟩ = some (.int .i64 wv)) := Lib.hid (by
          rintro W ⟨q, rfl⟩
          exact ⟨(World.cell?_alloc_lt w4 _ _ (by exact Row.lt HRP3.out)).trans cw4, (World.cell?_alloc_lt w4 _ _ (by exact HRB3.out.lt)).trans e34⟩)
        clear ct cb0
        go_wp2_with fail
        go_region_held3 (fun w' => w'.cell? ⟨GW, k, none⟩ = some (.int .i64 wa) ∧ w'.cell? ⟨GB, 3, none⟩ = some (.int .i64 wv)) (first | exact ⟨cw4, e34⟩ | exact HKA4.out _ (by first | exact Dr.refl _ | exact ⟨1, rfl⟩ | exact ⟨2, rfl⟩) | exact ⟨HKB4.out _ HC4.out, (HKC.out _ HRB4.out).2⟩) (first
          | (refine step_push2 (w := w4) Try.underlying22 Try.info2 (by rfl) _ _ (by rfl) (.int .i64 (wa + wv)) (by first | exact Dr.refl _ | exact ⟨1, rfl⟩ | exact ⟨2, rfl⟩ | exact ⟨3, rfl⟩) GW cW ((preL (wtB js) k).map (Value.int .i64)) k1 (by rfl) (by rw [List.length_map, preL_len]; exact HK1.out.symm) HRP3.out (by rfl) rfl (by have := HK1.out; omega) (by decide) rfl U w HB3.out HSZ4.out HPb.out.uw ?_; intro GW2 cW2 w5 hr3 hb3 hG3 hk3 hc3; obtain ⟨hrp3, hne3⟩ := hk3 _ _ _ _ HR3.out (Ne.symm HNE3.out); obtain ⟨hrb3, hnb3⟩ := hk3 _ _ _ _ HRB3.out (Ne.symm HNW.out); have HRB4 := Lib.hid hrb3; have HR4 := Lib.hid hr3; have HB4 := Lib.hid hb3; have HRP4 := Lib.hid hrp3; have HNE4 := Lib.hid hne3; have HG4 := Lib.hid hG3; have HC4 := Lib.hid hc3; clear hr3 hb3 hrp3 hk3 hne3 hG3 hc3 hrb3 hnb3))
        have HPN : Hid (Pre js U w (k + 1) GT2 cT2 GW2 cW2 w5) := Lib.hid (by
          refine ⟨?_, ?_, HNE4.out, HB4.out, HG3.out, HG4.out⟩
          · unfold Rw; rw [← preL_push, ← HT.out, List.map_append]; exact HRP4.out
          · unfold Rw; rw [← preL_push, ← HW.out, List.map_append]; exact HR4.out)
        go_wp2_with fail
        go_roundw
        case rel => exact ⟨k + 1, k1 + 1, GT2, cT2, GW2, cW2, by omega, by have := HK1.out; omega, by go_num, rfl, rfl, HPN.out⟩
        case measure => simp [intOf]; omega
    · obtain rfl : n = k := by omega
      clear hk
      have k1a : k1 ≤ n + 1 := by omega
      have k1b : n + 1 ≤ k1 := by omega
      clear hk1
      have hk25 : k1 ≤ 25 := by omega
      have hk2 : 2 ≤ k1 := by omega
      go_wp2_with (at_make; go_loud (refine wp_make rfl (.tmp 71) 90 rfl 91 (.slice none 0 0) 24 Try.underlying90 Try.info91 rfl k1 .i64 _ rfl (by omega) (by omega) (by unfold maxLen; omega) ?_); intro w2 hrow hbel)
      obtain ⟨GO, hGO⟩ : ∃ G, wr.heap.size = G := ⟨_, rfl⟩
      have HP1 : Hid (Pre js U w n GT cT GW cW w2) := Lib.hid (HP.out.keep hbel)
      have HGT : Hid (GT < GO) := Lib.hid (by have := HP.out.rt.lt; omega)
      have HGW : Hid (GW < GO) := Lib.hid (by have := HP.out.rw.lt; omega)
      have HUO : Hid (U ≤ GO) := Lib.hid (by have := HP.out.sz; omega)
      rw [hGO] at hrow
      have HM0 : Hid (Mt U w2 GO k1 0 (fun _ => 0)) := Lib.hid ⟨⟨_, hrow, by simp, fun i hi => by omega⟩, fun i hi => by omega, fun i hi => by omega, fun i j _ hi => by omega, HUO.out⟩
      try rw [hGO]
      clear hrow hbel hGO HP
      go_loopw [15, 75] (fun _ i w2 => ∃ (k : Nat) (R : Nat → Nat), k ≤ k1 ∧ i = .int .i64 k ∧ Mt U w2 GO k1 k R ∧ Pre js U w n GT cT GW cW w2) (fun _ i _ => k1 - (intOf i).toNat)
      case atStart => exact ⟨0, _, by omega, rfl, HM0.out, HP1.out⟩
      case round =>
        obtain ⟨k, R, hk, rfl, hm2, hp⟩ := hrel
        have HM := Lib.hid hm2; have HP := Lib.hid hp
        clear hm2 hp HM0 HP1
        by_cases hlt2 : k < k1
        · as_aux_lemma =>
            go_wp2_with (at_make; go_loud (refine wp_make3 rfl (.tmp 81) 91 rfl 93 (.agg #[.bool false, .int .i64 0, .slice none 0 0]) 40 Try.underlying91 Try.info93 (.bool false) (.int .i64 0) (.slice none 0 0) rfl k1 .i64 _ rfl (by omega) (by omega) (by unfold maxLen; omega) ?_); intro w3 cs h1 h2 h3 hbel; have hre := rowE_made (B := 0) h1 h2 h3; obtain ⟨⟨_, ha⟩, hb, hmt⟩ := HM.out.put hlt2 hre hbel; have HMT := Lib.hid hmt; have HP3 := Lib.hid (HP.out.keep hbel); clear h1 h2 h3 hbel hre hmt)
            go_roundw
            case rel => exact ⟨k + 1, _, by omega, by go_num, HMT.out, HP3.out.set _ (by have := HGT.out; omega) (by have := HGW.out; omega) HUO.out⟩
            case measure => simp [intOf]; omega
        · obtain rfl : k1 = k := by omega
          obtain ⟨B, hB⟩ : ∃ B, wr.heap.size = B := ⟨_, rfl⟩
          have HB0 : Hid (Bt U B wr GO k1 R (fun _ _ => none)) := Lib.hid (by rw [← hB]; exact HM.out.done (by omega))
          have o0 := HB0.out.o.get (i := 0) (by omega)
          have r0 := ((HB0.out.r 0 (by omega)).ent (b := 0) (by omega)).1
          rw [Nat.zero_mul] at r0
          have f0 := (HB0.out.r 0 (by omega)).free 0
          have HF := Lib.hid (HB0.out.first (S := S) (by omega))
          have HPZ : Hid (Pb js U w n GT cT GW cW B GO k1 R (Es S 1 1 none) (wr.setCell ⟨R 0, 0, none⟩ (.bool true))) := Lib.hid (by
            have h1 := HB0.out.gt 0 (by omega)
            have h2 := HGT.out
            have h3 := HGW.out
            have h4 := HUO.out
            exact ⟨HP.out.set _ (by omega) (by omega) (by omega), HF.out, HGT.out, HGW.out⟩)
          have hkk1 : (0 : Int) < (k1 : Int) := by omega
          clear hB HM HP HB0 HF
          go_wp2_with fail
          obtain ⟨wz, hwz⟩ : ∃ W, wr.setCell ⟨R 0, 0, none⟩ (.bool true) = W := ⟨_, rfl⟩
          rw [hwz] at HPZ ⊢
          clear hwz o0 r0 f0
          go_loopw [16, 17, 18, 19, 20, 21] (fun i _ _ _ _ _ w2 => ∃ k : Nat, 1 ≤ k ∧ k ≤ k1 ∧ i = .int .i64 k ∧ Pb js U w n GT cT GW cW B GO k1 R (Es S k 1 none) w2) (fun i _ _ _ _ _ _ => k1 - (intOf i).toNat)
          case atStart => exact ⟨1, by omega, by omega, rfl, HPZ.out⟩
          case round =>
            obtain ⟨k, hk0, hkk, rfl, ht⟩ := hrel
            have HT := Lib.hid ht
            clear ht HPZ
            by_cases hltk : k ≤ n
            · as_aux_lemma =>
                obtain ⟨mk, hmk⟩ : ∃ m, min k ms = m := ⟨_, rfl⟩
                have hmk0 : mk ≤ k := by omega
                have hmk1 : mk ≤ ms := by omega
                have HMK := Lib.hid hmk
                have HMX : Hid (∀ z, ¬ z ≤ mk → z ≤ k → ¬ z ≤ ms) := Lib.hid (by intro z h1 h2; omega)
                clear hmk
                go_wp2_with fail
                go_loopw [17, 18, 19, 20, 21] (fun i _ _ _ _ w2 => ∃ b : Nat, 1 ≤ b ∧ b ≤ k + 1 ∧ i = .int .i64 b ∧ Pb js U w n GT cT GW cW B GO k1 R (Es S k b none) w2) (fun i _ _ _ _ _ => k + 1 - (intOf i).toNat)
                case atStart => exact ⟨1, by omega, by omega, rfl, HT.out⟩
                case round =>
                  obtain ⟨b, hb0, hbk, rfl, ht⟩ := hrel
                  have HTb := Lib.hid ht
                  clear ht HT
                  by_cases hlb : b ≤ k
                  · obtain ⟨b0, hbb⟩ : ∃ b0, b0 + 1 = b := ⟨b - 1, by omega⟩
                    have HF0 : Hid (Pb js U w n GT cT GW cW B GO k1 R (Es S k b (S.fold (S.T b0) k b 0)) wr) := Lib.hid HTb.out
                    have HBB := Lib.hid hbb
                    have hb0k : b0 < k1 := by omega
                    have l4 : (b : Int) - 1 = (b0 : Int) := by omega
                    clear hbb hb0 HTb
                    go_wp2_with fail
                    go_loopw [18, 19, 20, 21] (fun i _ _ _ w2 => ∃ s z : Nat, s ≤ mk ∧ s + 1 = z ∧ i = .int .i64 z ∧ Pb js U w n GT cT GW cW B GO k1 R (Es S k b (S.fold (S.T b0) k b s)) w2) (fun i _ _ _ _ => mk + 1 - (intOf i).toNat)
                    case atStart => exact ⟨0, 1, by omega, rfl, rfl, HF0.out⟩
                    case round =>
                      obtain ⟨s, z, hs, hz, rfl, ht⟩ := hrel
                      have HS := Lib.hid ht
                      have HZ := Lib.hid hz
                      clear ht HF0
                      by_cases hls : z ≤ mk
                      · as_aux_lemma =>
                          obtain ⟨d, hd⟩ : ∃ d, k = d + z := ⟨k - z, by omega⟩
                          have zk : z ≤ k := by omega
                          have zm : z ≤ ms := by omega
                          have hdk : (k : Int) - (z : Int) = (d : Int) := by omega
                          have hd1 : d < k1 := by omega
                          have hk3 : k < k1 := by omega
                          have hst := fold_step (S := S) (b := b0) hz hd
                          rw [HBB.out] at hst
                          have od := HS.out.t.o.get hd1
                          obtain ⟨en0, en1, sv, en2, hsv⟩ := (HS.out.t.r d hd1).ent hb0k
                          rw [Es_old (by omega)] at en0 en1 hsv
                          obtain ⟨A, cA, rfl⟩ := hsv.form
                          have HSV := Lib.hid hsv
                          clear hsv
                          by_cases hT : S.T b0 d = none
                          · as_aux_lemma =>
                              have hst2 : S.fold (S.T b0) k b z = S.fold (S.T b0) k b s := by
                                rw [hst, hT]
                                cases S.fold (S.T b0) k b s <;> rfl
                              have HST := Lib.hid hst2
                              rw [hT] at en0 en1 en2
                              have hf1 : eb (none : Batch.Ent) = false := rfl
                              have hf2 : ec (none : Batch.Ent) = 0 := rfl
                              rw [hf1] at en0; rw [hf2] at en1
                              obtain ⟨ln, hln⟩ : ∃ y, (Batch.szs (none : Batch.Ent)).length = y := ⟨_, rfl⟩
                              rw [hln] at en2
                              clear hst hst2 HSV hT hf1 hf2 hln hz hd
                              go_wp2_with fail
                              go_roundw
                              case rel => exact ⟨z, z + 1, by omega, rfl, by go_num, by rw [HST.out]; exact HS.out.keep (below_alloc (Below.refl _ _) _)⟩
                              case measure => simp [intOf]; omega
                          · skip
                            obtain ⟨⟨bf, l0⟩, hv0⟩ : ∃ v, S.T b0 d = some v := by
                              cases h : S.T b0 d with
                              | none => exact absurd h hT
                              | some v => exact ⟨v, rfl⟩
                            obtain ⟨bf0, bf1⟩ := HOK.out.T b0 d bf l0 (by have := HBB.out; omega) (by omega) hv0
                            have hlen := Batch.Bp.szs_len (S := S) b0 d
                            rw [hv0] at hst en0 en1 en2 hlen
                            have HSV2 : Hid (SzA wr B (.slice A l0.length cA) l0) := Lib.hid (by have h := HSV.out; rw [hv0] at h; exact h)
                            have hf1 : eb (some (bf, l0)) = true := rfl
                            have hf2 : ec (some (bf, l0)) = bf := rfl
                            have hf3 : Batch.szs (some (bf, l0)) = l0 := rfl
                            rw [hf1] at en0; rw [hf2] at en1; rw [hf3] at en2 hlen
                            obtain ⟨ln, hln⟩ : ∃ y, l0.length = y := ⟨_, rfl⟩
                            rw [hln] at en2 hlen HSV2
                            have HLN := Lib.hid hln
                            have hlb1 : ln ≤ 24 := by have := HBB.out; omega
                            obtain ⟨u, v, x, pr, q1, q2, q3, q4, q5, u0, u1, v0, v1, x0, x1, p0, p1⟩ := HOK.out.cost (b := b) hltk (by omega) hd
                            obtain ⟨cn, hcn⟩ : ∃ y, bf + pr = y := ⟨_, rfl⟩
                            have hst3 : S.fold (S.T b0) k b z = Batch.better (S.fold (S.T b0) k b s) (some (cn, (z : Int) :: l0)) := by
                              rw [hst, ← hcn, ← q5]; rfl
                            have HST3 := Lib.hid hst3
                            obtain ⟨wk, hwk⟩ : ∃ y, wtB js k = y := ⟨_, rfl⟩
                            obtain ⟨wd, hwd⟩ : ∃ y, wtB js d = y := ⟨_, rfl⟩
                            obtain ⟨tk, htk⟩ : ∃ y, tmB js k = y := ⟨_, rfl⟩
                            have HWK := Lib.hid hwk; have HWD := Lib.hid hwd; have HTK := Lib.hid htk
                            rw [hwk, hwd] at q1; rw [htk] at q3
                            have b1 : IntKind.i64.wrap (wk - wd) = u := by rw [q1]; exact IntWalk.i64_in _ (by omega)
                            have b2 : IntKind.i64.wrap ((b : Int) * ch) = v := by rw [q2]; exact IntWalk.i64_in _ (by omega)
                            have b3 : IntKind.i64.wrap (v + tk) = x := by rw [q3]; exact IntWalk.i64_in _ (by omega)
                            have b4 : IntKind.i64.wrap (u * x) = pr := by rw [q4]; exact IntWalk.i64_in _ (by omega)
                            have b5 : IntKind.i64.wrap (bf + pr) = cn := by rw [hcn]; exact IntWalk.i64_in _ (by omega)
                            clear hst hst3 HSV hT hv0 hf1 hf2 hf3 hln hz q2 q4 q5 hwk hwd htk hd hlen
                            go_wp2_with fail
                            obtain ⟨GB, hGB⟩ : ∃ G, wr.heap.size = G := ⟨_, rfl⟩
                            obtain ⟨wb, hwb⟩ : ∃ W, wr.alloc (.cells #[.bool true, .int .i64 bf, .slice A ln cA] 93) = W := ⟨_, rfl⟩
                            have hbw : Below wr.heap.size wr wb := by rw [← hwb]; exact below_alloc (Below.refl _ _) _
                            have RB : Hid (Row wb GB 93 3 [.bool true, .int .i64 bf, .slice A ln cA]) := Lib.hid (by rw [← hwb]; exact row3 hGB.symm)
                            have HSb := Lib.hid (HS.out.keep hbw)
                            have HSVb := Lib.hid (HSV2.out.below hbw)
                            rw [hwb]
                            try rw [hGB]
                            clear hwb hGB hbw HS HSV2 en0 en1 en2 od
                            obtain ⟨d0, d1, d2⟩ := RB.out.three
                            have ck := HSb.out.p.wc hltk
                            have cd := HSb.out.p.wc (i := d) (by omega)
                            have ct := HSb.out.p.tc hltk
                            rw [HWK.out] at ck; rw [HWD.out] at cd; rw [HTK.out] at ct
                            go_quiet (fail)
                            have RBq := Lib.hid (RB.out.dr (.one _ nq))
                            have HSq := Lib.hid (HSb.out.dr (.one _ nq))
                            have HSVq := Lib.hid (HSVb.out.below (Dr.below ⟨nq, rfl⟩))
                            clear RB HSb HSVb d0 d1 d2 ck cd ct
                            generalize wb.drewN nq = wq at *
                            have d2a : (wq.alloc (.cells #[.int .i64 (z : Int)] 2)).cell? ⟨GB, 2, none⟩ = some (.slice A ln cA) := (World.cell?_alloc_lt wq _ _ (by exact RBq.out.lt)).trans RBq.out.three.2.2
                            go_wp2_with (at_builtin; go_loud (refine push_all wq rfl _ _ rfl (z : Int) l0 ln (by rfl) (.slice A ln cA) (by rfl) HLN.out (by omega) (.inl HSVq.out.sz) ?_); intro G4 cap4 w4 h1 h2 h3; have HR4 := Lib.hid h1; have HG4 := Lib.hid h2; have HB4 := Lib.hid h3; clear h1 h2 h3)
                            obtain ⟨GN, hGN⟩ : ∃ G, w4.heap.size = G := ⟨_, rfl⟩
                            obtain ⟨w5, hw5⟩ : ∃ W, w4.alloc (.cells #[.bool true, .int .i64 cn, .slice (some ⟨G4, 0, none⟩) (ln + 1) cap4] 93) = W := ⟨_, rfl⟩
                            have RN : Hid (Row w5 GN 93 3 [.bool true, .int .i64 cn, .slice (some ⟨G4, 0, none⟩) (ln + 1) cap4]) := Lib.hid (by rw [← hw5]; exact row3 hGN.symm)
                            have HS5 : Hid (Pb js U w n GT cT GW cW B GO k1 R (Es S k b (S.fold (S.T b0) k b s)) w5) := Lib.hid (HSq.out.keep (by rw [← hw5]; exact HB4.out.alloc HB4.out.size _))
                            have HSN : Hid (SzA w5 B (.slice (some ⟨G4, 0, none⟩) (ln + 1) cap4) ((z : Int) :: l0)) := Lib.hid (by
                              rw [← hw5]
                              refine SzA.mk (HR4.out.alloc _) (by have := HSq.out.t.sz; have := HG4.out; omega) (by simp [HLN.out]) (by simp))
                            rw [hw5]
                            try rw [hGN]
                            have hneN : GN ≠ GO := by
                              have h1 := HSq.out.t.o.lt
                              have h2 := HB4.out.size
                              omega
                            have HNEN := Lib.hid hneN
                            clear hw5 hGN HR4 HG4 HB4 HSq HSVq RBq d2a hneN
                            have hbk1 : b < k1 := by omega
                            obtain ⟨Rk, hRk⟩ : ∃ r, R k = r := ⟨_, rfl⟩
                            have ok := HS5.out.t.o.get hk3
                            obtain ⟨y0, y1, sv, y2, hsv1⟩ := (HS5.out.t.r k hk3).ent hbk1
                            rw [Es_at] at y0 y1 hsv1
                            obtain ⟨A1, c1', rfl⟩ := hsv1.form
                            rw [hRk] at ok y0 y1 y2
                            obtain ⟨n0, n1', n2'⟩ := RN.out.three
                            obtain ⟨e1, he1⟩ : ∃ e, S.fold (S.T b0) k b s = e := ⟨_, rfl⟩
                            obtain ⟨e3, he3⟩ : ∃ e, S.fold (S.T b0) k b z = e := ⟨_, rfl⟩
                            have hl1 : (Batch.szs e1).length ≤ 1000 := by
                              have h := fold_len (S := S) (b := b0) (k := k) (s := s)
                              have h2 := HBB.out
                              rw [h2, he1] at h
                              omega
                            have HST4 := HST3.out
                            rw [he1, he3] at HST4
                            rw [he1] at HS5 y0 y1 y2 hsv1
                            obtain ⟨f1, hf1⟩ : ∃ y, eb e1 = y := ⟨_, rfl⟩
                            obtain ⟨g1, hg1⟩ : ∃ y, ec e1 = y := ⟨_, rfl⟩
                            obtain ⟨m1, hm1⟩ : ∃ y, (Batch.szs e1).length = y := ⟨_, rfl⟩
                            obtain ⟨f3, hf3⟩ : ∃ y, eb e3 = y := ⟨_, rfl⟩
                            obtain ⟨g3, hg3⟩ : ∃ y, ec e3 = y := ⟨_, rfl⟩
                            obtain ⟨l3, hl3⟩ : ∃ y, Batch.szs e3 = y := ⟨_, rfl⟩
                            have HBET : Hid (∀ W, Below w5.heap.size w5 W → Calls Try.prog 116 #[.agg #[.bool f1, .int .i64 g1, .slice A1 m1 c1'], .agg #[.bool true, .int .i64 cn, .slice (some ⟨G4, 0, none⟩) (ln + 1) cap4]] W (fun en w' => ∃ A c m, en = .returned (.agg #[.bool f3, .int .i64 g3, .slice A m c]) ∧ SzA w' B (.slice A m c) l3 ∧ Below W.heap.size W w')) := Lib.hid (fun W hb => better_now hf1 hg1 hm1 hsv1 HSN.out hl1 (by rw [List.length_cons, HLN.out]; omega) HST4 hf3 hg3 hl3 hb)
                            have HPUT : Hid (∀ W A c m, Below w5.heap.size w5 W → SzA W B (.slice A m c) l3 → Pb js U w n GT cT GW cW B GO k1 R (Es S k b e3) (((W.setCell ⟨Rk, b * 3, none⟩ (.bool f3)).setCell ⟨Rk, b * 3 + 1, none⟩ (.int .i64 g3)).setCell ⟨Rk, b * 3 + 2, none⟩ (.slice A m c))) := Lib.hid (by
                              intro W A c m hb h2
                              rw [← hRk, ← hf3, ← hg3]
                              exact (HS5.out.keep hb).put hk3 hbk1 e3 (by rw [hl3]; exact h2))
                            have HRE : Hid (RowE w5 B Rk k1 (Es S k b e1 k)) := Lib.hid (by rw [← hRk]; exact HS5.out.t.r k hk3)
                            have HST6 := Lib.hid (fun (W : World) (hb : Below w5.heap.size w5 W) => HRE.out.there hb hbk1)
                            have hRN1 : Rk ≠ GO := by have h1 := HS5.out.t.gt k hk3; rw [hRk] at h1; omega
                            have hRN2 := HRE.out.ne_box RN.out hk2
                            have HKP := Lib.hid (fun (W : World) (hb : Below w5.heap.size w5 W) => now_keep HS5.out.t.o RN.out hk3 hb)
                            have HKQ := Lib.hid (fun (W : World) (u1 u2 u3 : Value) (hb : Below w5.heap.size w5 W) => now_set (b := b) (u1 := u1) (u2 := u2) (u3 := u3) HS5.out.t.o RN.out hk3 hb hRN1 hRN2)
                            rw [hRk] at HKP HKQ
                            have HE3 := Lib.hid he3
                            rw [hf1] at y0; rw [hg1] at y1; rw [hm1] at y2
                            clear hsv1 HSN HS5 RN HST3 HST4 hRN1 hRN2 HRE hRk hl1 he1 he3 hf1 hg1 hm1 hf3 hg3 hl3 HWK HWD HTK
                            refine wp_region_held_drew (S := fun W => W.cell? ⟨GO, k, none⟩ = some (.slice (some ⟨Rk, 0, none⟩) k1 k1) ∧ W.cell? ⟨GN, 0, none⟩ = some (.bool true) ∧ W.cell? ⟨GN, 1, none⟩ = some (.int .i64 cn) ∧ W.cell? ⟨GN, 2, none⟩ = some (.slice (some ⟨G4, 0, none⟩) (ln + 1) cap4)) (by kernel_rfl) ⟨ok, n0, n1', n2'⟩ (fun hHeld => ?_)
                            refine wpAnyH_take (i := 0) (oi := ⟨_, _, _, _, _, _⟩) (v := ?_) rfl (by kernel_rfl) (by kernel_rfl) (by kernel_rfl) (fun _ _ _ h => h) (Or.inl ⟨by rfl, ?_⟩) hHeld ?_
                            rotate_left
                            · intro w hSw; (try dsimp only at hSw); go_simp; (try with_reducible rfl)
                            try simp only [Act.put, List.setIfInBounds_toArray, List.set_cons_zero, List.set_cons_succ]
                            refine wpAnyH_take (i := 1) (oi := ⟨_, _, _, _, _, _⟩) (v := ?_) rfl (by kernel_rfl) (by kernel_rfl) (by kernel_rfl) (fun _ _ _ h => h) (Or.inl ⟨by rfl, ?_⟩) hHeld ?_
                            rotate_left
                            · intro w hSw; (try dsimp only at hSw); go_simp; (try with_reducible rfl)
                            try simp only [Act.put, List.setIfInBounds_toArray, List.set_cons_zero, List.set_cons_succ]
                            refine wpAnyH_take (i := 2) (oi := ⟨_, _, _, _, _, _⟩) (v := ?_) rfl (by kernel_rfl) (by kernel_rfl) (by kernel_rfl) (fun _ _ _ h => h) (Or.inl ⟨by rfl, ?_⟩) hHeld ?_
                            rotate_left
                            · intro w hSw; (try dsimp only at hSw); go_simp; (try with_reducible rfl)
                            try simp only [Act.put, List.setIfInBounds_toArray, List.set_cons_zero, List.set_cons_succ]
                            refine wpAnyH_take (i := 3) (oi := ⟨_, _, _, _, _, _⟩) (v := ?_) rfl (by kernel_rfl) (by kernel_rfl) (by kernel_rfl) (fun _ _ _ h => h) (Or.inl ⟨by rfl, ?_⟩) hHeld ?_
                            rotate_left
                            · intro w hSw; (try dsimp only at hSw); go_simp; (try with_reducible rfl)
                            try simp only [Act.put, List.setIfInBounds_toArray, List.set_cons_zero, List.set_cons_succ]
                            refine wpAnyH_take (i := 4) (oi := ⟨_, _, _, _, _, _⟩) (v := ?_) rfl (by kernel_rfl) (by kernel_rfl) (by kernel_rfl) (fun _ _ _ h => h) (Or.inl ⟨by rfl, ?_⟩) hHeld ?_
                            rotate_left
                            · intro w hSw; (try dsimp only at hSw); go_simp; (try with_reducible rfl)
                            try simp only [Act.put, List.setIfInBounds_toArray, List.set_cons_zero, List.set_cons_succ]
                            refine wpAnyH_take (i := 5) (oi := ⟨_, _, _, _, _, _⟩) (v := ?_) rfl (by kernel_rfl) (by kernel_rfl) (by kernel_rfl) (fun _ _ _ h => h) (Or.inl ⟨by rfl, ?_⟩) hHeld ?_
                            rotate_left
                            · intro w hSw; (try dsimp only at hSw); go_simp; (try with_reducible rfl)
                            try simp only [Act.put, List.setIfInBounds_toArray, List.set_cons_zero, List.set_cons_succ]
                            refine wpAnyH_take (i := 6) (oi := ⟨_, _, _, _, _, _⟩) (v := ?_) rfl (by kernel_rfl) (by kernel_rfl) (by kernel_rfl) (fun _ _ _ h => h) (Or.inl ⟨by rfl, ?_⟩) hHeld ?_
                            rotate_left
                            · intro w hSw; (try dsimp only at hSw); go_simp; (try with_reducible rfl)
                            try simp only [Act.put, List.setIfInBounds_toArray, List.set_cons_zero, List.set_cons_succ]
                            refine wpAnyH_take (i := 7) (oi := ⟨_, _, _, _, _, _⟩) (v := ?_) rfl (by kernel_rfl) (by kernel_rfl) (by kernel_rfl) (fun _ _ _ h => h) (Or.inl ⟨by rfl, ?_⟩) hHeld ?_
                            rotate_left
                            · intro w hSw; (try dsimp only at hSw); go_simp; (try with_reducible rfl)
                            try simp only [Act.put, List.setIfInBounds_toArray, List.set_cons_zero, List.set_cons_succ]
                            refine wpAnyH_take (i := 8) (oi := ⟨_, _, _, _, _, _⟩) (v := ?_) rfl (by kernel_rfl) (by kernel_rfl) (by kernel_rfl) (fun _ _ _ h => h) (Or.inl ⟨by rfl, ?_⟩) hHeld ?_
                            rotate_left
                            · intro w hSw; (try dsimp only at hSw); go_simp; (try with_reducible rfl)
                            try simp only [Act.put, List.setIfInBounds_toArray, List.set_cons_zero, List.set_cons_succ]
                            refine wpAnyH_take (i := 9) (oi := ⟨_, _, _, _, _, _⟩) (v := ?_) rfl (by kernel_rfl) (by kernel_rfl) (by kernel_rfl) (fun _ _ _ h => h) (Or.inl ⟨by rfl, ?_⟩) hHeld ?_
                            rotate_left
                            · intro w hSw; (try dsimp only at hSw); go_simp; (try with_reducible rfl)
                            try simp only [Act.put, List.setIfInBounds_toArray, List.set_cons_zero, List.set_cons_succ]
                            refine wpAnyH_take (i := 10) (oi := ⟨_, _, _, _, _, _⟩) (v := ?_) rfl (by kernel_rfl) (by kernel_rfl) (by kernel_rfl) (fun _ _ _ h => h) (Or.inl ⟨by rfl, ?_⟩) hHeld ?_
                            rotate_left
                            · intro w hSw; (try dsimp only at hSw); go_simp; (try with_reducible rfl)
                            try simp only [Act.put, List.setIfInBounds_toArray, List.set_cons_zero, List.set_cons_succ]
                            refine wpAnyH_take (i := 12) (oi := ⟨_, _, _, _, _, _⟩) (v := ?_) rfl (by kernel_rfl) (by kernel_rfl) (by kernel_rfl) (fun _ _ _ h => h) (Or.inl ⟨by rfl, ?_⟩) hHeld ?_
                            rotate_left
                            · intro w hSw; (try dsimp only at hSw); go_simp; (try with_reducible rfl)
                            try simp only [Act.put, List.setIfInBounds_toArray, List.set_cons_zero, List.set_cons_succ]
                            refine wpAnyH_ready (rs := [11]) (by kernel_rfl) (by simp) ?_
                            refine AllReadyH.cons (o := ⟨_, _, _, _, _, _⟩) rfl (fun K hK => ?_) AllReadyH.nil
                            go_simp
                            refine hK.out _ _ hHeld (fun hHeld => ?_)
                            clear hK K
                            try simp only [Act.put, List.setIfInBounds_toArray, List.set_cons_zero, List.set_cons_succ]
                            refine wpAnyH_ready (rs := [13]) (by kernel_rfl) (by simp) ?_
                            refine AllReadyH.cons (o := ⟨_, _, _, _, _, _⟩) rfl (fun K hK => ?_) AllReadyH.nil
                            go_simp
                            go_at_call 116; refine (HBET.out _ (by first | exact Dr.below (Dr.refl _) | exact Dr.below ⟨1, rfl⟩ | exact Dr.below ⟨2, rfl⟩)).mono ?_; rintro e w6 ⟨A6, c6, m6, rfl, hs6, hb6⟩; have HS6 := Lib.hid hs6; have HB6 : Hid (Below w5.heap.size w5 w6) := Lib.hid ((Dr.below (by first | exact Dr.refl _ | exact ⟨1, rfl⟩ | exact ⟨2, rfl⟩)).trans hb6); obtain ⟨⟨_, z0⟩, ⟨_, z1⟩, ⟨_, z2⟩, z3, z4, z5⟩ := HST6.out _ HB6.out; clear hs6 hb6
                            refine hK.out _ _ (HKP.out _ HB6.out) (fun hHeld => ?_)
                            clear hK K
                            try simp only [Act.put, List.setIfInBounds_toArray, List.set_cons_zero, List.set_cons_succ]
                            refine wpAnyH_take (i := 14) (oi := ⟨_, _, _, _, _, _⟩) (v := ?_) rfl (by kernel_rfl) (by kernel_rfl) (by kernel_rfl) (fun _ _ _ h => h) (Or.inl ⟨by rfl, ?_⟩) hHeld ?_
                            rotate_left
                            · intro w hSw; (try dsimp only at hSw); go_simp; (try with_reducible rfl)
                            try simp only [Act.put, List.setIfInBounds_toArray, List.set_cons_zero, List.set_cons_succ]
                            refine wpAnyH_ready (rs := [15]) (by kernel_rfl) (by simp) ?_
                            refine AllReadyH.cons (o := ⟨_, _, _, _, _, _⟩) rfl (fun K hK => ?_) AllReadyH.nil
                            go_simp
                            refine hK.out _ _ (HKQ.out _ _ _ _ HB6.out) (fun hHeld => ?_)
                            clear hK K
                            try simp only [Act.put, List.setIfInBounds_toArray, List.set_cons_zero, List.set_cons_succ]
                            refine wpAnyH_done (by kernel_rfl) ?_ _
                            go_wp2_with fail
                            go_roundw
                            case rel => exact ⟨z, z + 1, by omega, rfl, by go_num, by rw [HE3.out]; exact HPUT.out _ _ _ _ HB6.out HS6.out⟩
                            case measure => simp [intOf]; omega
                      · skip
                        have hsm : s = mk := by omega
                        subst hsm
                        have hTe : S.fold (S.T b0) k b s = S.T b k := by
                          have e1 := HBB.out
                          have e2 := HMK.out
                          rw [← e1]
                          show S.fold (S.T b0) k (b0 + 1) s = S.fold (S.T b0) k (b0 + 1) (min k S.most)
                          rw [HSM.out, e2]
                        have HNX : Hid (Pb js U w n GT cT GW cW B GO k1 R (Es S k (b + 1) none) wr) := Lib.hid (HS.out.to (by rw [hTe, Es_next]))
                        clear hTe HS
                        by_cases hzk : z ≤ k
                        · have hzm := HMX.out z hls hzk
                          go_wp2_with fail
                          go_roundw
                          case rel => exact ⟨b + 1, by omega, by omega, by go_num, HNX.out⟩
                          case measure => simp [intOf]; omega
                        · go_wp2_with fail
                          go_roundw
                          case rel => exact ⟨b + 1, by omega, by omega, by go_num, HNX.out⟩
                          case measure => simp [intOf]; omega
                  · skip
                    obtain rfl : b = k + 1 := by omega
                    have HNX : Hid (Pb js U w n GT cT GW cW B GO k1 R (Es S (k + 1) 1 none) wr) := Lib.hid (HTb.out.to Es_row)
                    clear HTb
                    go_wp2_with fail
                    go_roundw
                    case rel => exact ⟨k + 1, by omega, by omega, by go_num, HNX.out⟩
                    case measure => simp [intOf]; omega
            · skip
              obtain rfl : k1 = k := by omega
              have HTF : Hid (Pb js U w n GT cT GW cW B GO k1 R (Es S k1 1 none) wr) := HT
              have on := HTF.out.t.o.get (i := n) (by omega)
              obtain ⟨GX, hGX⟩ : ∃ G, wr.heap.size = G := ⟨_, rfl⟩
              have HBX : Hid (B ≤ GX) := Lib.hid (by have := HTF.out.t.sz; omega)
              have hbx : Below wr.heap.size wr (wr.alloc (.cells #[.bool false, .int .i64 0, .slice none 0 0] 93)) := below_alloc (Below.refl _ _) _
              have RX : Hid (Row (wr.alloc (.cells #[.bool false, .int .i64 0, .slice none 0 0] 93)) GX 93 3 [.bool false, .int .i64 0, .slice none 0 0]) := Lib.hid (row3 hGX.symm)
              have HP0 := Lib.hid (HTF.out.keep hbx)
              have on2 := HP0.out.t.o.get (i := n) (by omega)
              have hnk : n < k1 := by omega
              clear hbx hkk hk0
              go_wp2_with fail
              try rw [hGX]
              obtain ⟨wx, hwx⟩ : ∃ W, wr.alloc (.cells #[.bool false, .int .i64 0, .slice none 0 0] 93) = W := ⟨_, rfl⟩
              rw [hwx] at RX HP0 on2 ⊢
              have HX0 : Hid (BoxB S n B GX wx 0) := Lib.hid ⟨none, 0, RX.out, SzA.nil _ _⟩
              clear hwx hGX RX on on2 HTF HT
              go_loopw [24, 174] (fun _ i w2 => ∃ m : Nat, m ≤ k1 ∧ i = .int .i64 m ∧ Pb js U w n GT cT GW cW B GO k1 R (Es S k1 1 none) w2 ∧ BoxB S n B GX w2 m) (fun _ i _ => k1 - (intOf i).toNat)
              case atStart => exact ⟨0, by omega, rfl, HP0.out, HX0.out⟩
              case round =>
                obtain ⟨m, hmk, rfl, hp, hx⟩ := hrel
                have HP := Lib.hid hp; have HX := Lib.hid hx
                clear hp hx HP0 HX0
                by_cases hlm : m < k1
                · as_aux_lemma =>
                    obtain ⟨Ab, cb, rb, sb⟩ := HX.out
                    obtain ⟨y0, y1, sv, y2, hsv⟩ := (HP.out.t.r n hnk).ent hlm
                    rw [Es_old hnk] at y0 y1 hsv
                    obtain ⟨Ae, ce, rfl⟩ := hsv.form
                    obtain ⟨x0, x1, x2⟩ := rb.three
                    have hl1 := best_len (S := S) (n := n) m (by omega)
                    have hl2 := Batch.Bp.szs_len (S := S) m n
                    have hst : Batch.Bp.best S n (m + 1) = Batch.better (Batch.Bp.best S n m) (S.T m n) := rfl
                    obtain ⟨eb1, he1⟩ : ∃ e, Batch.Bp.best S n m = e := ⟨_, rfl⟩
                    obtain ⟨e2, he2⟩ : ∃ e, S.T m n = e := ⟨_, rfl⟩
                    obtain ⟨e3, he3⟩ : ∃ e, Batch.Bp.best S n (m + 1) = e := ⟨_, rfl⟩
                    rw [he1] at rb sb x0 x1 x2 hl1 hst
                    rw [he2] at y0 y1 y2 hsv hl2 hst
                    rw [he3] at hst
                    obtain ⟨f1, hf1⟩ : ∃ y, eb eb1 = y := ⟨_, rfl⟩
                    obtain ⟨g1, hg1⟩ : ∃ y, ec eb1 = y := ⟨_, rfl⟩
                    obtain ⟨m1, hm1⟩ : ∃ y, (Batch.szs eb1).length = y := ⟨_, rfl⟩
                    obtain ⟨f2, hf2⟩ : ∃ y, eb e2 = y := ⟨_, rfl⟩
                    obtain ⟨g2, hg2⟩ : ∃ y, ec e2 = y := ⟨_, rfl⟩
                    obtain ⟨m2, hm2⟩ : ∃ y, (Batch.szs e2).length = y := ⟨_, rfl⟩
                    have HSB := Lib.hid sb; have HSV := Lib.hid hsv; have RB := Lib.hid rb
                    rw [hf1] at x0; rw [hg1] at x1; rw [hm1] at x2
                    rw [hf2] at y0; rw [hg2] at y1; rw [hm2] at y2
                    have hba : Below wr.heap.size wr (wr.alloc (.cells #[.bool f2, .int .i64 g2, .slice Ae m2 ce] 93)) := below_alloc (Below.refl _ _) _
                    have HBA := Lib.hid hba
                    have x0a := (rb.below hba rb.lt).three
                    rw [hf1, hg1, hm1] at x0a
                    obtain ⟨p0, p1, p2⟩ := x0a
                    obtain ⟨r0, r1, r2⟩ := Row.three (row3 (w := wr) (a := .bool f2) (b := .int .i64 g2) (c := .slice Ae m2 ce) (T := 93) rfl)
                    have HBET : Hid (∀ W, Below wr.heap.size wr W → Calls Try.prog 116 #[.agg #[.bool f1, .int .i64 g1, .slice Ab m1 cb], .agg #[.bool f2, .int .i64 g2, .slice Ae m2 ce]] W (fun en w' => ∃ A c m, en = .returned (.agg #[.bool (eb e3), .int .i64 (ec e3), .slice A m c]) ∧ (Batch.szs e3).length = m ∧ SzA w' B (.slice A (Batch.szs e3).length c) (Batch.szs e3) ∧ Below W.heap.size W w')) := Lib.hid (fun W hb => better_two hf1 hg1 hm1 hf2 hg2 hm2 HSB.out HSV.out (by omega) (by omega) hst hb)
                    have HBOX : Hid (∀ W A c, Below wr.heap.size wr W → SzA W B (.slice A (Batch.szs e3).length c) (Batch.szs e3) → Pb js U w n GT cT GW cW B GO k1 R (Es S k1 1 none) (((W.setCell ⟨GX, 0, none⟩ (.bool (eb e3))).setCell ⟨GX, 1, none⟩ (.int .i64 (ec e3))).setCell ⟨GX, 2, none⟩ (.slice A (Batch.szs e3).length c)) ∧ BoxB S n B GX (((W.setCell ⟨GX, 0, none⟩ (.bool (eb e3))).setCell ⟨GX, 1, none⟩ (.int .i64 (ec e3))).setCell ⟨GX, 2, none⟩ (.slice A (Batch.szs e3).length c)) (m + 1)) := Lib.hid (fun W A c hb hs => box_put HP.out RB.out HBX.out hb he3 hs)
                    have HFR : Hid (∀ W, Below wr.heap.size wr W → W.cell? ⟨GX, 0, none⟩ = some (.bool f1) ∧ W.cell? ⟨GX, 1, none⟩ = some (.int .i64 g1) ∧ W.cell? ⟨GX, 2, none⟩ = some (.slice Ab m1 cb) ∧ W.frozen? ⟨GX, 0, none⟩ = false ∧ W.frozen? ⟨GX, 1, none⟩ = false ∧ W.frozen? ⟨GX, 2, none⟩ = false) := Lib.hid (fun W hb => by
                      have h := RB.out.below hb RB.out.lt
                      rw [hf1, hg1, hm1] at h
                      exact ⟨h.three.1, h.three.2.1, h.three.2.2, h.free _, h.free _, h.free _⟩)
                    obtain ⟨f3, hf3⟩ : ∃ y, eb e3 = y := ⟨_, rfl⟩
                    obtain ⟨g3, hg3⟩ : ∃ y, ec e3 = y := ⟨_, rfl⟩
                    obtain ⟨l3, hl3⟩ : ∃ y, Batch.szs e3 = y := ⟨_, rfl⟩
                    rw [hf3, hg3, hl3] at HBET HBOX
                    clear rb sb hsv hl1 hl2 hst he1 he2 he3 hf1 hg1 hm1 hf2 hg2 hm2 hf3 hg3 hl3 HSB HSV RB hba HX
                    go_wp2_with (go_at_call 116; refine (HBET.out _ (by first | exact HBA.out | exact Below.refl _ _)).mono ?_; rintro e w6 ⟨A6, c6, m6, rfl, rfl, hs6, hb6⟩; have HS6 := Lib.hid hs6; have HB6 : Hid (Below wr.heap.size wr w6) := Lib.hid (HBA.out.trans (hb6.mono HBA.out.size)); obtain ⟨z0, z1, z2, z3, z4, z5⟩ := HFR.out _ HB6.out; clear hs6 hb6)
                    go_roundw
                    case rel => exact ⟨m + 1, by omega, by go_num, (HBOX.out _ _ _ HB6.out HS6.out).1, (HBOX.out _ _ _ HB6.out HS6.out).2⟩
                    case measure => simp [intOf]; omega
                · obtain rfl : k1 = m := by omega
                  obtain ⟨bl1, bl2, bl3⟩ := best_list (S := S) (n := n) HOK.out.hw (by rw [HSM.out]; exact s1) (by omega)
                  have hkn : k1 = n + 1 := by omega
                  obtain ⟨Ab, cb, rb, sb⟩ := HX.out
                  rw [hkn] at rb sb
                  rcases sb with ⟨e, _⟩ | ⟨G, c2, e, _, hrw, hBG⟩
                  · rw [e] at bl1; simp at bl1
                  injection e with e1 _ e3
                  subst e1 e3
                  obtain ⟨x0, x1, x2⟩ := rb.three
                  obtain ⟨ln, hln⟩ : ∃ y, (Batch.szs (Batch.Bp.best S n (n + 1))).length = y := ⟨_, rfl⟩
                  rw [bl3] at x1
                  rw [hln] at x2 bl1 bl2
                  have HRET : Hid (∀ w', Rw w' G cb (Batch.szs (Batch.Bp.best S n (n + 1))).reverse → Below U w w' → BpP js ch ms w (.returned (.tuple #[.slice (some ⟨G, 0, none⟩) ln cb, .int .i64 (Batch.Bp.least S n (n + 1)), .bool true])) w') := Lib.hid (by
                    intro w' h1 h2
                    have h3 := HP.out.t.ob
                    have h4 := HP.out.t.u
                    exact HFIN.out w' G cb h1 (by rw [HU.out]; omega) (by rw [HU.out]; exact h2) ln (by rw [List.length_reverse, hln]))
                  have HREV : Hid (∀ W, Below wr.heap.size wr W → Calls Try.prog 117 #[.slice (some ⟨G, 0, none⟩) ln cb] W fun e w' => e = .returned (.tuple #[]) ∧ Rw w' G cb (Batch.szs (Batch.Bp.best S n (n + 1))).reverse ∧ Touch G W w') := Lib.hid (fun W hb => reverse_any W G ln cb _ hln bl1 (by omega) (hrw.below hb hrw.lt))
                  have HGX : Hid (GX ≠ G) := Lib.hid (fun h => Row.ne_type rb hrw (by decide) h)
                  have HAFT : Hid (∀ w', Touch G wr w' → w'.cell? ⟨GX, 2, none⟩ = some (.slice (some ⟨G, 0, none⟩) ln cb) ∧ w'.cell? ⟨GX, 1, none⟩ = some (.int .i64 (Batch.Bp.least S n (n + 1))) ∧ Below U w w') := Lib.hid (by
                    intro w' ht
                    have h := (rb.touch ht HGX.out).three
                    rw [bl3, hln] at h
                    have h3 := HP.out.t.ob
                    have h4 := HP.out.t.u
                    exact ⟨h.2.2, h.2.1, HP.out.p.b.trans (ht.below (by omega) HP.out.p.sz)⟩)
                  obtain ⟨lv, hlv⟩ : ∃ v, Batch.Bp.least S n (n + 1) = v := ⟨_, rfl⟩
                  rw [hlv] at HRET HAFT x1
                  clear hkn hrw rb hln bl3 HX HFIN hlv
                  go_wp2_with (go_at_call 117; refine (HREV.out _ (Below.refl _ _)).mono ?_; rintro e w6 ⟨rfl, hr6, ht6⟩; have HR6 := Lib.hid hr6; obtain ⟨z2, z1, z3⟩ := HAFT.out _ ht6; have HB6 := Lib.hid z3; clear z3 hr6 ht6)
                  go_quiet (fail)
                  go_wp2_with fail
                  go_ret3
                  exact HRET.out _ (HR6.out.dr (.one _ _)) (HB6.out.trans (Dr.below ⟨_, rfl⟩))

end Go.Proofs.Ytncmhinpjkkfkaa
