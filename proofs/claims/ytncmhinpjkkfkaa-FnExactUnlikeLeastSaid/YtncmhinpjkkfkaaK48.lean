/-
  Walks: the least way to give jobs to machines: the program's functions. Conditions: none.
-/
import Derived.Test.YtncmhinpjkkfkaaK47
import Derived.Test.YtncmhinpjkkfkaaK34
import Derived.Test.YtncmhinpjkkfkaaK45
set_option linter.unusedVariables false
set_option linter.unusedSimpArgs false
namespace Go.Proofs.Ytncmhinpjkkfkaa
open Go Go.RowKit

theorem row1 {w : World} {v : Value} {T : TypeId} {g : Nat} (hg : g = w.heap.size) : Row (w.alloc (.cells #[v] T)) g T 1 [v] := by
  subst hg; exact ⟨#[v], heap_alloc_new w _, rfl, by simp, by simp [maxLen], rfl⟩
theorem rw_made' {W : World} {n g : Nat} (h : n ≤ 24) (hg : g = W.heap.size) : Rw (W.alloc (.cells (madeCells #[.int .i64 0] n) 2)) g n (List.replicate n 0) := by
  subst hg; exact rw_made W n h

/-- What the boxes and the four new blocks are. -/
structure LwB (w : World) (nn mm : Nat) (fv : Value) (v e GW GE : Nat) (wx : World) : Prop where
  rv : Row wx v 22 1 [.slice (some ⟨GW, 0, none⟩) nn nn]
  re : Row wx e 22 1 [.slice (some ⟨GE, 0, none⟩) mm mm]
  rW : Rw wx GW nn (List.replicate nn 0)
  rE : Rw wx GE mm (List.replicate mm 0)
  r0 : Row wx w.heap.size 3 1 [.int .i64 nn]
  r1 : Row wx (w.heap.size + 1) 2 1 [.int .i64 mm]
  r2 : Row wx (w.heap.size + 1 + 1) 87 1 [fv]
  r3 : Row wx (w.heap.size + 1 + 1 + 1) 22 1 [.slice none 0 0]
  r4 : Row wx (w.heap.size + 1 + 1 + 1 + 1) 2 1 [.int .i64 0]
  bel : Below w.heap.size w wx
  ne : w.heap.size + 4 < v ∧ w.heap.size + 4 < e ∧ w.heap.size + 4 < GW ∧ w.heap.size + 4 < GE ∧ GE ≠ GW ∧ GE ≠ e ∧ GE ≠ v ∧ GW ≠ e ∧ GW ≠ v ∧ e ≠ v

def LwC (w : World) (nn mm : Nat) (fv : Value) (s10 s11 : Value) (wx : World) : Prop :=
  ∃ v e GW GE, s10 = (.pointer (some ⟨v, 0, none⟩)) ∧ s11 = (.pointer (some ⟨e, 0, none⟩)) ∧ LwB w nn mm fv v e GW GE wx
theorem LwB.alloc {w : World} {nn mm : Nat} {fv : Value} {v e GW GE : Nat} {wx : World} (h : LwB w nn mm fv v e GW GE wx) (o : Obj) : LwB w nn mm fv v e GW GE (wx.alloc o) :=
  ⟨h.rv.alloc o, h.re.alloc o, h.rW.alloc o, h.rE.alloc o, h.r0.alloc o, h.r1.alloc o, h.r2.alloc o, h.r3.alloc o, h.r4.alloc o, below_alloc h.bel o, h.ne⟩
/-- The boxes alone. -/
structure LwB5 (w : World) (nn mm : Nat) (fv : Value) (w5 : World) : Prop where
  r0 : Row w5 w.heap.size 3 1 [.int .i64 nn]
  r1 : Row w5 (w.heap.size + 1) 2 1 [.int .i64 mm]
  r2 : Row w5 (w.heap.size + 1 + 1) 87 1 [fv]
  r3 : Row w5 (w.heap.size + 1 + 1 + 1) 22 1 [.slice none 0 0]
  r4 : Row w5 (w.heap.size + 1 + 1 + 1 + 1) 2 1 [.int .i64 0]
  bel : Below w.heap.size w w5
  sz : w5.heap.size = w.heap.size + 5
theorem lwb5 (w : World) (nn mm : Nat) (fv : Value) : LwB5 w nn mm fv (((((w.alloc (.cells #[.int .i64 (nn : Int)] 3)).alloc (.cells #[.int .i64 (mm : Int)] 2)).alloc (.cells #[fv] 87)).alloc (.cells #[.slice none 0 0] 22)).alloc (.cells #[.int .i64 0] 2)) :=
  ⟨((((row1 rfl).alloc _).alloc _).alloc _).alloc _, (((row1 (by simp)).alloc _).alloc _).alloc _, ((row1 (by simp)).alloc _).alloc _, (row1 (by simp)).alloc _, row1 (by simp), below_alloc (below_alloc (below_alloc (below_alloc (below_alloc (Below.refl _ _) _) _) _) _) _, by simp⟩
theorem below4 (w : World) (a b c d : Obj) : Below w.heap.size w ((((w.alloc a).alloc b).alloc c).alloc d).drew := (below_alloc (below_alloc (below_alloc (below_alloc (Below.refl _ _) _) _) _) _).drew
section
variable {w : World} {a b c d : Obj} {v : Value} {T : TypeId} {n : Nat}
theorem row_k3 : Row ((((w.alloc a).alloc b).alloc c).alloc (.cells #[v] T)).drew (w.heap.size + 1 + 1 + 1) T 1 [v] := Row.dr (row1 (by simp)) (.one _ 1)
theorem row_k2 : Row ((((w.alloc a).alloc b).alloc (.cells #[v] T)).alloc d).drew (w.heap.size + 1 + 1) T 1 [v] := Row.dr ((row1 (by simp)).alloc _) (.one _ 1)
theorem row_k1 : Row ((((w.alloc a).alloc (.cells #[v] T)).alloc c).alloc d).drew (w.heap.size + 1) T 1 [v] := Row.dr (((row1 (by simp)).alloc _).alloc _) (.one _ 1)
theorem row_k0 : Row ((((w.alloc (.cells #[v] T)).alloc b).alloc c).alloc d).drew w.heap.size T 1 [v] := Row.dr ((((row1 rfl).alloc _).alloc _).alloc _) (.one _ 1)
theorem rw_k3 (h : n ≤ 24) {M : Array Value} (hM : madeCells #[.int .i64 0] n = M) : Rw ((((w.alloc a).alloc b).alloc c).alloc (.cells M 2)).drew (w.heap.size + 1 + 1 + 1) n (List.replicate n 0) := by subst hM; exact Rw.dr (rw_made' h (by simp)) (.one _ 1)
theorem rw_k2 (h : n ≤ 24) {M : Array Value} (hM : madeCells #[.int .i64 0] n = M) : Rw ((((w.alloc a).alloc b).alloc (.cells M 2)).alloc d).drew (w.heap.size + 1 + 1) n (List.replicate n 0) := by subst hM; exact Rw.dr ((rw_made' h (by simp)).alloc _) (.one _ 1)
theorem rw_k1 (h : n ≤ 24) {M : Array Value} (hM : madeCells #[.int .i64 0] n = M) : Rw ((((w.alloc a).alloc (.cells M 2)).alloc c).alloc d).drew (w.heap.size + 1) n (List.replicate n 0) := by subst hM; exact Rw.dr (((rw_made' h (by simp)).alloc _).alloc _) (.one _ 1)
theorem rw_k0 (h : n ≤ 24) {M : Array Value} (hM : madeCells #[.int .i64 0] n = M) : Rw ((((w.alloc (.cells M 2)).alloc b).alloc c).alloc d).drew w.heap.size n (List.replicate n 0) := by subst hM; exact Rw.dr ((((rw_made' h rfl).alloc _).alloc _).alloc _) (.one _ 1)
end
theorem lwc5 {w w5 : World} {nn mm : Nat} {fv : Value} {v e GW GE : Nat} {wx : World} (h : LwB5 w nn mm fv w5) (hb : Below w5.heap.size w5 wx)
    (rv : Row wx v 22 1 [.slice (some ⟨GW, 0, none⟩) nn nn]) (re : Row wx e 22 1 [.slice (some ⟨GE, 0, none⟩) mm mm])
    (rW : Rw wx GW nn (List.replicate nn 0)) (rE : Rw wx GE mm (List.replicate mm 0))
    (ne : w.heap.size + 4 < v ∧ w.heap.size + 4 < e ∧ w.heap.size + 4 < GW ∧ w.heap.size + 4 < GE ∧ GE ≠ GW ∧ GE ≠ e ∧ GE ≠ v ∧ GW ≠ e ∧ GW ≠ v ∧ e ≠ v) : LwC w nn mm fv ((.pointer (some ⟨v, 0, none⟩))) ((.pointer (some ⟨e, 0, none⟩))) wx :=
  ⟨v, e, GW, GE, rfl, rfl, rv, re, rW, rE, h.r0.below hb h.r0.lt, h.r1.below hb h.r1.lt, h.r2.below hb h.r2.lt, h.r3.below hb h.r3.lt, h.r4.below hb h.r4.lt, h.bel.trans (hb.mono (by rw [h.sz]; omega)), ne⟩

/-- The first call of the search. -/
theorem put_start (w wp : World) (nn mm : Nat) (n1 : 1 ≤ nn) (n2 : nn ≤ 24) (m1 : 1 ≤ mm) (m2 : mm ≤ 8) (tm : Nat → Int → Int) (F : FuncId) (caps : Array Value)
    (hF : ∀ w', Below w.heap.size w w' → ∀ i d : Nat, i < nn → d < mm → Calls Try.prog F (#[.int .i64 (i : Int), .int .i64 (d : Int)] ++ caps) w' fun e w'' => e = .returned (.int .i64 (tm i d)) ∧ w'' = w')
    (hen : ∀ (args : Array Value) (w' : World), Sem.run Try.prog (callFunc F args) w' = .ok (.enter F args) w')
    (htm : ∀ i d : Nat, i < nn → d < mm → 1 ≤ tm i d ∧ tm i d ≤ 10000) (v e GW GE p : Nat)
    (h : LwB w nn mm (.func (.func F) #[] caps) v e GW GE wp) (hp : GE < p ∧ GW < p ∧ e < p ∧ v < p)
    (hpv : Row wp p 105 1 [.func (.func 131) #[] #[(.pointer (some ⟨w.heap.size, 0, none⟩)), (.pointer (some ⟨e, 0, none⟩)), .pointer (some ⟨w.heap.size + 1 + 1 + 1, 0, none⟩), .pointer (some ⟨w.heap.size + 1 + 1 + 1 + 1, 0, none⟩), (.pointer (some ⟨v, 0, none⟩)), .pointer (some ⟨w.heap.size + 1, 0, none⟩), .pointer (some ⟨w.heap.size + 1 + 1, 0, none⟩), (.pointer (some ⟨p, 0, none⟩))]]) :
    Calls Try.prog 131 #[.int .i64 0, .pointer (some ⟨w.heap.size, 0, none⟩), (.pointer (some ⟨e, 0, none⟩)), .pointer (some ⟨w.heap.size + 1 + 1 + 1, 0, none⟩), .pointer (some ⟨w.heap.size + 1 + 1 + 1 + 1, 0, none⟩), (.pointer (some ⟨v, 0, none⟩)), .pointer (some ⟨w.heap.size + 1, 0, none⟩), .pointer (some ⟨w.heap.size + 1 + 1, 0, none⟩), (.pointer (some ⟨p, 0, none⟩))] wp fun en w' => ∃ GB cb, en = .returned (.tuple #[]) ∧
      w'.cell? ⟨w.heap.size + 1 + 1 + 1, 0, none⟩ = some (.slice (some ⟨GB, 0, none⟩) nn cb) ∧ w'.cell? ⟨w.heap.size + 1 + 1 + 1 + 1, 0, none⟩ = some (.int .i64 (costW tm mm nn (Ways.arg (costW tm mm nn) (mm ^ nn)))) ∧
      Rw w' GB cb (Ways.digs mm nn (Ways.arg (costW tm mm nn) (mm ^ nn))) ∧ w.heap.size ≤ GB ∧ Below w.heap.size w w' := by
  let S : Lw := ⟨w.heap.size, w.heap.size + 1, w.heap.size + 1 + 1, w.heap.size + 1 + 1 + 1, w.heap.size + 1 + 1 + 1 + 1, e, v, p, GE, GW, nn, mm, tm, .func (.func F) #[] caps, w.heap.size, w⟩
  have ne := h.ne
  have ho : S.Ord := ⟨Nat.le_refl _, by show w.heap.size < w.heap.size + 1; omega, by show w.heap.size + 1 < w.heap.size + 1 + 1; omega, by show w.heap.size + 1 + 1 < w.heap.size + 1 + 1 + 1; omega, by show w.heap.size + 1 + 1 + 1 < w.heap.size + 1 + 1 + 1 + 1; omega,
    by show w.heap.size + 1 + 1 + 1 + 1 < GE ∧ w.heap.size + 1 + 1 + 1 + 1 < GW ∧ w.heap.size + 1 + 1 + 1 + 1 < e ∧ w.heap.size + 1 + 1 + 1 + 1 < v; omega, hp, by show GE ≠ GW ∧ GE ≠ e ∧ GE ≠ v ∧ GW ≠ e ∧ GW ≠ v ∧ e ≠ v; omega⟩
  have hf : S.Fix wp := ⟨h.r0, h.re, h.rv, h.r1, h.r2, hpv, h.bel⟩
  have hst : S.St wp 0 0 0 0 0 := ⟨ho, hf, ⟨List.replicate nn 0, h.rW, by simp [S], by simp [Ways.digs]⟩, by show Rw wp GE mm (Ways.EN tm mm 0 0); rw [Ways.EN_zero]; exact h.rE, .inl ⟨rfl, h.r3, h.r4⟩⟩
  have hc := put_any S n1 n2 m1 m2 F caps rfl hF hen htm nn 0 0 0 wp (by show 0 + nn = nn; omega) (by omega) hst
  refine hc.mono fun en w' hh => ?_
  obtain ⟨h1, h2⟩ := hh
  have hpos : 0 < mm ^ nn := Nat.pow_pos m1
  rw [Nat.zero_add] at h2
  rcases h2.best with ⟨a, _⟩ | ⟨a, GB, cb, b1, b2, b3, b4⟩
  · exact absurd a (by show mm ^ nn ≠ 0; omega)
  · refine ⟨GB, cb, h1, Lw.Row1.cell b1, Lw.Row1.cell b2, b3, ?_, h2.fix.bel⟩
    have : p < GB := b4
    omega

theorem run_store_fn (P : Program) (w : World) (a : Addr) (m : Mode) (f : Fn) (cs : Array Value) : (store a (.func f #[] cs) m).run P w = stored P w a (.func f #[] cs) m := run_store P w a _ m rfl
attribute [local go_sem] run_store_fn

set_option maxHeartbeats 16000000 in
set_option maxRecDepth 100000 in
theorem leastWay_any (w : World) (nn mm : Nat) (n1 : 1 ≤ nn) (n2 : nn ≤ 24) (m1 : 1 ≤ mm) (m2 : mm ≤ 8) (tm : Nat → Int → Int) (F : FuncId) (caps : Array Value)
    (hF : ∀ w', Below w.heap.size w w' → ∀ i d : Nat, i < nn → d < mm → Calls Try.prog F (#[.int .i64 (i : Int), .int .i64 (d : Int)] ++ caps) w' fun e w'' => e = .returned (.int .i64 (tm i d)) ∧ w'' = w')
    (hen : ∀ (args : Array Value) (w' : World), Sem.run Try.prog (callFunc F args) w' = .ok (.enter F args) w')
    (htm : ∀ i d : Nat, i < nn → d < mm → 1 ≤ tm i d ∧ tm i d ≤ 10000) :
    Calls Try.prog 103 #[.int .i64 nn, .int .i64 mm, .func (.func F) #[] caps] w (WayP w nn (Ways.digs mm nn (Ways.arg (costW tm mm nn) (mm ^ nn))) (costW tm mm nn (Ways.arg (costW tm mm nn) (mm ^ nn)))) := by
  have HF := Lib.hid hF; have HEN := Lib.hid hen; have HTM := Lib.hid htm
  clear hF hen htm
  obtain ⟨MN, hMN⟩ : ∃ M, madeCells #[.int .i64 0] nn = M := ⟨_, rfl⟩
  obtain ⟨MM, hMM⟩ : ∃ M, madeCells #[.int .i64 0] mm = M := ⟨_, rfl⟩
  have mk1 : ∀ W : World, (Instr.makeSlice 22 (.int .i64 (nn : Int)) (.int .i64 (nn : Int))).run Try.prog W = .ok (.slice (some ⟨W.heap.size, 0, none⟩) nn nn) (W.alloc (.cells MN 2)) := fun W => by rw [← hMN]; exact mk_run W nn n2
  have mk2 : ∀ W : World, (Instr.makeSlice 22 (.int .i64 (mm : Int)) (.int .i64 (mm : Int))).run Try.prog W = .ok (.slice (some ⟨W.heap.size, 0, none⟩) mm mm) (W.alloc (.cells MM 2)) := fun W => by rw [← hMM]; exact mk_run W mm (by omega)
  have HMN := Lib.hid hMN; have HMM := Lib.hid hMM
  clear hMN hMM
  have n24 : nn ≤ 24 := n2
  have m24 : mm ≤ 24 := by omega
  go_enter Try.func103, Try.ntmps103
  go_upto_region 3 with fail
  go_cut [10, 11] (fun s10 s11 wx => LwC w nn mm (.func (.func F) #[] caps) s10 s11 wx)
  case first =>
    obtain ⟨w5, hw5⟩ : ∃ w5, ((((w.alloc (.cells #[.int .i64 (nn : Int)] 3)).alloc (.cells #[.int .i64 (mm : Int)] 2)).alloc (.cells #[.func (.func F) #[] caps] 87)).alloc (.cells #[.slice none 0 0] 22)).alloc (.cells #[.int .i64 0] 2) = w5 := ⟨_, rfl⟩
    have h5 : LwB5 w nn mm (.func (.func F) #[] caps) w5 := by rw [← hw5]; exact lwb5 w nn mm (.func (.func F) #[] caps)
    have HB5 := Lib.hid h5
    have HW5 := Lib.hid hw5
    have HSZ : Hid (w.heap.size + 1 + 1 + 1 + 1 + 1 = w5.heap.size) := Lib.hid (by rw [h5.sz])
    have HL5 : Hid (w.heap.size + 4 < w5.heap.size) := Lib.hid (by rw [h5.sz]; omega)
    clear h5 hw5
    go_region
    all_goals
      go_wp2_with fail
      go_meet
      rw [HW5.out, HSZ.out]
      apply lwc5 HB5.out (below4 _ _ _ _ _)
      · first | exact row_k3 | exact row_k2 | exact row_k1 | exact row_k0
      · first | exact row_k3 | exact row_k2 | exact row_k1 | exact row_k0
      · first | exact rw_k3 n24 HMN.out | exact rw_k2 n24 HMN.out | exact rw_k1 n24 HMN.out | exact rw_k0 n24 HMN.out
      · first | exact rw_k3 m24 HMM.out | exact rw_k2 m24 HMM.out | exact rw_k1 m24 HMM.out | exact rw_k0 m24 HMM.out
      · have := HL5.out; omega
  case rest =>
    obtain ⟨v, e, GW, GE, rfl, rfl, hb⟩ := hcut
    have HB := Lib.hid hb
    have l1 := hb.rv.lt; have l2 := hb.re.lt; have l3 := hb.rW.lt; have l4 := hb.rE.lt
    have hpb : Row (wc.alloc (.cells #[.func (.func 131) #[] #[(.pointer (some ⟨w.heap.size, 0, none⟩)), (.pointer (some ⟨e, 0, none⟩)), .pointer (some ⟨w.heap.size + 1 + 1 + 1, 0, none⟩), .pointer (some ⟨w.heap.size + 1 + 1 + 1 + 1, 0, none⟩), (.pointer (some ⟨v, 0, none⟩)), .pointer (some ⟨w.heap.size + 1, 0, none⟩), .pointer (some ⟨w.heap.size + 1 + 1, 0, none⟩), .pointer (some ⟨wc.heap.size, 0, none⟩)]] 105)) wc.heap.size 105 1 [.func (.func 131) #[] #[(.pointer (some ⟨w.heap.size, 0, none⟩)), (.pointer (some ⟨e, 0, none⟩)), .pointer (some ⟨w.heap.size + 1 + 1 + 1, 0, none⟩), .pointer (some ⟨w.heap.size + 1 + 1 + 1 + 1, 0, none⟩), (.pointer (some ⟨v, 0, none⟩)), .pointer (some ⟨w.heap.size + 1, 0, none⟩), .pointer (some ⟨w.heap.size + 1 + 1, 0, none⟩), .pointer (some ⟨wc.heap.size, 0, none⟩)]] := row1 rfl
    have hlb : LwB w nn mm (.func (.func F) #[] caps) v e GW GE (wc.alloc (.cells #[.func (.func 131) #[] #[(.pointer (some ⟨w.heap.size, 0, none⟩)), (.pointer (some ⟨e, 0, none⟩)), .pointer (some ⟨w.heap.size + 1 + 1 + 1, 0, none⟩), .pointer (some ⟨w.heap.size + 1 + 1 + 1 + 1, 0, none⟩), (.pointer (some ⟨v, 0, none⟩)), .pointer (some ⟨w.heap.size + 1, 0, none⟩), .pointer (some ⟨w.heap.size + 1 + 1, 0, none⟩), .pointer (some ⟨wc.heap.size, 0, none⟩)]] 105)) := hb.alloc _
    have HPB := Lib.hid hpb; have HLB := Lib.hid hlb
    have hp4 : GE < wc.heap.size ∧ GW < wc.heap.size ∧ e < wc.heap.size ∧ v < wc.heap.size := ⟨l4, l3, l2, l1⟩
    have HP4 := Lib.hid hp4
    clear hb mk1 mk2 hpb hlb hp4 l1 l2 l3 l4
    go_wp2_with (go_at_call 131; refine (put_start w _ nn mm n1 n2 m1 m2 tm F caps HF.out HEN.out HTM.out v e GW GE wc.heap.size HLB.out HP4.out HPB.out).mono ?_; rintro en wd ⟨GB, cb, rfl, d1, d2, hr, hg, hbl⟩; have HR := Lib.hid hr; have HBL := Lib.hid hbl; clear hr hbl)
    go_quiet (fail)
    go_wp2
    go_ret2
    exact ⟨GB, cb, rfl, (by first | exact HR.out | exact HR.out.dr (.one _ _)), hg, (by first | exact HBL.out | exact below_drewN HBL.out _)⟩
end Go.Proofs.Ytncmhinpjkkfkaa
