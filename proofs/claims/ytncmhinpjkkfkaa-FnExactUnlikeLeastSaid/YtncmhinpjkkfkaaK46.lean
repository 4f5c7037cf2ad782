/-
  Walks: the least way to give jobs to machines: the program's search, a function that calls itself. Conditions: none.
-/
import Derived.Test.YtncmhinpjkkfkaaK44
import Derived.Deep.DeepCutAuto
set_option linter.unusedVariables false
set_option linter.unusedSimpArgs false
namespace Go.Proofs.Ytncmhinpjkkfkaa
open Go Go.RowKit


/-- The blocks of one search: the boxes of its variables, its two rows; the numbers; the world before it. -/
structure Lw where
  (j m t b l e v p GE GW : Nat)
  (nn mm : Nat)
  tm : Nat → Int → Int
  fv : Value
  U : Nat
  w0 : World

namespace Lw
variable (S : Lw)

def cost : Nat → Int := costW S.tm S.mm S.nn
def pv : Value := .func (.func 131) #[] #[.pointer (some ⟨S.j, 0, none⟩), .pointer (some ⟨S.e, 0, none⟩), .pointer (some ⟨S.b, 0, none⟩), .pointer (some ⟨S.l, 0, none⟩), .pointer (some ⟨S.v, 0, none⟩), .pointer (some ⟨S.m, 0, none⟩), .pointer (some ⟨S.t, 0, none⟩), .pointer (some ⟨S.p, 0, none⟩)]

structure Ord : Prop where
  u : S.U ≤ S.j
  a1 : S.j < S.m
  a2 : S.m < S.t
  a3 : S.t < S.b
  a4 : S.b < S.l
  a5 : S.l < S.GE ∧ S.l < S.GW ∧ S.l < S.e ∧ S.l < S.v
  a6 : S.GE < S.p ∧ S.GW < S.p ∧ S.e < S.p ∧ S.v < S.p
  a7 : S.GE ≠ S.GW ∧ S.GE ≠ S.e ∧ S.GE ≠ S.v ∧ S.GW ≠ S.e ∧ S.GW ≠ S.v ∧ S.e ≠ S.v

structure Fix (w : World) : Prop where
  j : Row w S.j 3 1 [.int .i64 S.nn]
  e : Row w S.e 22 1 [.slice (some ⟨S.GE, 0, none⟩) S.mm S.mm]
  v : Row w S.v 22 1 [.slice (some ⟨S.GW, 0, none⟩) S.nn S.nn]
  m : Row w S.m 2 1 [.int .i64 S.mm]
  t : Row w S.t 87 1 [S.fv]
  p : Row w S.p 105 1 [S.pv]
  bel : Below S.U S.w0 w

def Way (w : World) (i P : Nat) : Prop := ∃ wl : List Int, Rw w S.GW S.nn wl ∧ wl.length = S.nn ∧ wl.take i = Ways.digs S.mm i P
def Ends (w : World) (j Q : Nat) : Prop := Rw w S.GE S.mm (Ways.EN S.tm S.mm j Q)
def Best (w : World) (T : Nat) : Prop :=
  (T = 0 ∧ Row w S.b 22 1 [.slice none 0 0] ∧ Row w S.l 2 1 [.int .i64 0]) ∨
  (T ≠ 0 ∧ ∃ GB cb, Row w S.b 22 1 [.slice (some ⟨GB, 0, none⟩) S.nn cb] ∧ Row w S.l 2 1 [.int .i64 (S.cost (Ways.arg S.cost T))] ∧ Rw w GB cb (Ways.digs S.mm S.nn (Ways.arg S.cost T)) ∧ S.p < GB)

structure St (w : World) (i P j Q T : Nat) : Prop where
  ord : S.Ord
  fix : S.Fix w
  way : S.Way w i P
  ends : S.Ends w j Q
  best : S.Best w T

variable {S}

theorem Fix.dr {w w' : World} (h : S.Fix w) (hd : Dr w w') : S.Fix w' := ⟨h.j.dr hd, h.e.dr hd, h.v.dr hd, h.m.dr hd, h.t.dr hd, h.p.dr hd, h.bel.trans hd.below⟩
theorem Best.dr {w w' : World} {T : Nat} (h : S.Best w T) (hd : Dr w w') : S.Best w' T := by
  rcases h with ⟨a, b, c⟩ | ⟨a, GB, cb, b, c, d, e⟩
  · exact .inl ⟨a, b.dr hd, c.dr hd⟩
  · exact .inr ⟨a, GB, cb, b.dr hd, c.dr hd, d.dr hd, e⟩
theorem St.dr {w w' : World} {i P j Q T : Nat} (h : S.St w i P j Q T) (hd : Dr w w') : S.St w' i P j Q T := by
  obtain ⟨wl, a, b, c⟩ := h.way
  exact ⟨h.ord, h.fix.dr hd, ⟨wl, a.dr hd, b, c⟩, Row.dr h.ends hd, h.best.dr hd⟩

theorem St.below {w w' : World} {i P j Q T : Nat} (h : S.St w i P j Q T) (hb : Below w.heap.size w w') : S.St w' i P j Q T := by
  obtain ⟨wl, a, b, c⟩ := h.way
  have f := h.fix
  have hU : S.U ≤ w.heap.size := by have := f.j.lt; have := h.ord.u; omega
  refine ⟨h.ord, ⟨f.j.below hb f.j.lt, f.e.below hb f.e.lt, f.v.below hb f.v.lt, f.m.below hb f.m.lt, f.t.below hb f.t.lt, f.p.below hb f.p.lt, f.bel.trans (hb.mono hU)⟩, ⟨wl, a.below hb a.lt, b, c⟩, Row.below h.ends hb (Row.lt h.ends), ?_⟩
  rcases h.best with ⟨a, b, c⟩ | ⟨a, GB, cb, b, c, d, e⟩
  · exact .inl ⟨a, b.below hb b.lt, c.below hb c.lt⟩
  · exact .inr ⟨a, GB, cb, b.below hb b.lt, c.below hb c.lt, d.below hb d.lt, e⟩

/-- What a store into one of the two rows leaves. -/
theorem Fix.set {w : World} {g o : Nat} {u : Value} (ho : S.Ord) (h : S.Fix w) (hg : g = S.GE ∨ g = S.GW ∨ g = S.b ∨ g = S.l) : S.Fix (w.setCell ⟨g, o, none⟩ u) := by
  obtain ⟨u0, a1, a2, a3, a4, a5, a6, a7⟩ := ho
  have hgU : S.U ≤ g := by omega
  exact ⟨h.j.other (by show S.j ≠ g; omega) _, h.e.other (by show S.e ≠ g; omega) _, h.v.other (by show S.v ≠ g; omega) _, h.m.other (by show S.m ≠ g; omega) _, h.t.other (by show S.t ≠ g; omega) _, h.p.other (by show S.p ≠ g; omega) _, h.bel.setCell (p := ⟨g, o, none⟩) hgU _⟩
theorem Best.set {w : World} {g o T : Nat} {u : Value} (ho : S.Ord) (h : S.Best w T) (hg : g = S.GE ∨ g = S.GW) : S.Best (w.setCell ⟨g, o, none⟩ u) T := by
  obtain ⟨u0, a1, a2, a3, a4, a5, a6, a7⟩ := ho
  rcases h with ⟨a, b, c⟩ | ⟨a, GB, cb, b, c, d, e⟩
  · exact .inl ⟨a, b.other (by show S.b ≠ g; omega) _, c.other (by show S.l ≠ g; omega) _⟩
  · exact .inr ⟨a, GB, cb, b.other (by show S.b ≠ g; omega) _, c.other (by show S.l ≠ g; omega) _, d.past (by omega) _ _, e⟩

theorem St.wayS {w : World} {i P j Q T d : Nat} (h : S.St w i P j Q T) (hi : i < S.nn) (hd : d < S.mm) : S.St (w.setCell ⟨S.GW, i, none⟩ (.int .i64 (d : Int))) (i + 1) (P * S.mm + d) j Q T := by
  obtain ⟨wl, a, b, c⟩ := h.way
  have a7 := h.ord.a7
  exact ⟨h.ord, h.fix.set h.ord (.inr (.inl rfl)), ⟨wl.set i d, a.set i _, by simpa using b, Ways.way_push b hi hd c⟩, Row.other h.ends (by show S.GE ≠ S.GW; omega) _, h.best.set h.ord (.inr rfl)⟩
theorem St.endsS {w : World} {i P j Q j' Q' T d : Nat} {x : Int} (h : S.St w i P j Q T) (he : (Ways.EN S.tm S.mm j Q).set d x = Ways.EN S.tm S.mm j' Q') : S.St (w.setCell ⟨S.GE, d, none⟩ (.int .i64 x)) i P j' Q' T := by
  obtain ⟨wl, a, b, c⟩ := h.way
  have a7 := h.ord.a7
  refine ⟨h.ord, h.fix.set h.ord (.inl rfl), ⟨wl, a.past (by omega) _ _, b, c⟩, ?_, h.best.set h.ord (.inl rfl)⟩
  unfold Ends; rw [← he]; exact Rw.set h.ends d x
theorem St.less {w : World} {i P j Q T d : Nat} (h : S.St w (i + 1) (P * S.mm + d) j Q T) (hd : d < S.mm) : S.St w i P j Q T := by
  obtain ⟨wl, a, b, c⟩ := h.way
  exact ⟨h.ord, h.fix, ⟨wl, a, b, Ways.way_less hd c⟩, h.ends, h.best⟩

/-- A new best way. -/
theorem St.put {w : World} {P T G c : Nat} {l : List Int} (h : S.St w S.nn P S.nn P T) (hG : Rw w G c (Ways.digs S.mm S.nn P)) (hp : S.p < G) (ha : Ways.arg S.cost (T + 1) = P) :
    S.St ((w.setCell ⟨S.b, 0, none⟩ (.slice (some ⟨G, 0, none⟩) S.nn c)).setCell ⟨S.l, 0, none⟩ (.int .i64 (S.cost P))) S.nn P S.nn P (T + 1) := by
  obtain ⟨wl, a, b, d⟩ := h.way
  have ho := h.ord
  obtain ⟨u0, a1, a2, a3, a4, a5, a6, a7⟩ := ho
  refine ⟨h.ord, (h.fix.set h.ord (.inr (.inr (.inl rfl)))).set h.ord (.inr (.inr (.inr rfl))), ⟨wl, (a.past (by omega) _ _).past (by omega) _ _, b, d⟩, Row.other (Row.other h.ends (by show S.GE ≠ S.b; omega) _) (by show S.GE ≠ S.l; omega) _, .inr ⟨by omega, G, c, ?_, ?_, ?_, hp⟩⟩
  · have hb : ∃ x, Row w S.b 22 1 [x] := by
      rcases h.best with ⟨_, b, _⟩ | ⟨_, _, _, b, _⟩
      · exact ⟨_, b⟩
      · exact ⟨_, b⟩
    obtain ⟨x, hb⟩ := hb
    exact (hb.set 0 _).other (by show S.b ≠ S.l; omega) _
  · have hb : ∃ x, Row w S.l 2 1 [x] := by
      rcases h.best with ⟨_, _, b⟩ | ⟨_, _, _, _, b, _⟩
      · exact ⟨_, b⟩
      · exact ⟨_, b⟩
    obtain ⟨x, hb⟩ := hb
    rw [ha]
    exact (hb.other (by show S.l ≠ S.b; omega) _).set 0 _
  · rw [ha]; exact (hG.past (by omega) _ _).past (by omega) _ _
theorem St.keep {w : World} {P T : Nat} (h : S.St w S.nn P S.nn P T) (h0 : T ≠ 0) (ha : Ways.arg S.cost (T + 1) = Ways.arg S.cost T) : S.St w S.nn P S.nn P (T + 1) := by
  refine ⟨h.ord, h.fix, h.way, h.ends, ?_⟩
  rcases h.best with ⟨a, _⟩ | ⟨a, GB, cb, b, c, d, e⟩
  · exact absurd a h0
  · exact .inr ⟨by omega, GB, cb, b, by rw [ha]; exact c, by rw [ha]; exact d, e⟩

theorem Row1.cell {w : World} {g : Nat} {T : TypeId} {v : Value} (h : Row w g T 1 [v]) : w.cell? ⟨g, 0, none⟩ = some v := h.cell 0 (by simp)

/-- The search calls itself with the next job. -/
def PutP (S : Lw) (i P T : Nat) (e : Ending) (w' : World) : Prop := e = .returned (.tuple #[]) ∧ S.St w' i P i P T
end Lw

set_option maxHeartbeats 8000000 in
set_option maxRecDepth 100000 in
theorem put_base (S : Lw) (n1 : 1 ≤ S.nn) (n2 : S.nn ≤ 24) (m1 : 1 ≤ S.mm) (m2 : S.mm ≤ 8) (P : Nat) (w : World) (h : S.St w S.nn P S.nn P P) :
    Calls Try.prog 131 #[.int .i64 S.nn, .pointer (some ⟨S.j, 0, none⟩), .pointer (some ⟨S.e, 0, none⟩), .pointer (some ⟨S.b, 0, none⟩), .pointer (some ⟨S.l, 0, none⟩), .pointer (some ⟨S.v, 0, none⟩), .pointer (some ⟨S.m, 0, none⟩), .pointer (some ⟨S.t, 0, none⟩), .pointer (some ⟨S.p, 0, none⟩)] w (Lw.PutP S S.nn P (P + 1)) := by
  have hst := h
  obtain ⟨ho, hf, ⟨wl, ha, hb, hc⟩, he, hbest⟩ := h
  have hwl : wl = Ways.digs S.mm S.nn P := by rw [← hc, List.take_of_length_le (by omega)]
  have hrw : Rw w S.GW S.nn (Ways.digs S.mm S.nn P) := by rw [← hwl]; exact ha
  have hGWlt := ha.lt
  have cj := Lw.Row1.cell hf.j; have ce := Lw.Row1.cell hf.e; have cv := Lw.Row1.cell hf.v
  have HST := Lib.hid hst; have HRW := Lib.hid hrw; have HE : Hid (Rw w S.GE S.mm (Ways.EN S.tm S.mm S.nn P)) := Lib.hid he
  have hplt := hf.p.lt
  have hbp : S.b < w.heap.size ∧ S.l < w.heap.size := by
    have := ho.a4; have := ho.a5; have := ho.a6; omega
  obtain ⟨hblt, hllt⟩ := hbp
  have hnb : S.l ≠ S.b := by have := ho.a4; omega
  obtain ⟨cP, hcP⟩ : ∃ v, S.cost P = v := ⟨_, rfl⟩
  have HCP : Hid (mxK (Ways.EN S.tm S.mm S.nn P) S.mm = cP) := Lib.hid hcP
  have HCP2 := Lib.hid hcP
  have HEL : Hid ((Ways.EN S.tm S.mm S.nn P).length = S.mm) := Lib.hid (Ways.EN_len _ _ _ _)
  have HDL : Hid ((Ways.digs S.mm S.nn P).length = S.nn) := Lib.hid (Ways.digs_len _ _ _)
  have hput : ∀ w4 G c, Below w.heap.size w w4 → Rw w4 G c (Ways.digs S.mm S.nn P) → w.heap.size ≤ G → Ways.arg S.cost (P + 1) = P → Lw.PutP S S.nn P (P + 1) (.returned (.tuple #[])) ((w4.setCell ⟨S.b, 0, none⟩ (.slice (some ⟨G, 0, none⟩) S.nn c)).setCell ⟨S.l, 0, none⟩ (.int .i64 cP)) := fun w4 G c a b d e => by
    refine ⟨rfl, ?_⟩
    rw [← hcP]
    exact Lw.St.put (l := []) (hst.below a) b (by omega) e
  have HPUT := Lib.hid hput
  have heq := fun (W : World) (a : Option Addr) (n c : Nat) => Lib.run_eql_slice_nil (P := Try.prog) W 22 2 a n c 0 0 Try.underlying22
  clear hst ha hb hc he hf hrw hcP hwl hput
  rcases hbest with ⟨h0, hb1, hb2⟩ | ⟨h0, GB, cb, hb1, hb2, hb3, hb4⟩
  · have harg : Ways.arg S.cost (P + 1) = P := by rw [h0]; rfl
    have HARG := Lib.hid harg
    have c1 := Lw.Row1.cell hb1; have c2 := Lw.Row1.cell hb2
    have HB1 := Lib.hid hb1; have HB2 := Lib.hid hb2
    clear harg h0 hb1 hb2
    go_enter Try.func131, Try.ntmps131
    go_wp2_with (first
      | (go_at_call 84; refine (slicesMax_any S.GE 0 _ S.mm _ _ HEL.out (by omega) m1 HE.out.rd).mono ?_; rintro e w' ⟨rfl, rfl⟩; rw [HCP.out])
      | (go_at_call 112; refine (clone_any _ S.GW S.nn S.nn _ HDL.out HRW.out.rd hGWlt n1 (by omega)).mono ?_; rintro e w4 ⟨G, c, rfl, hr, hg, hb⟩; have d1 := Lw.Row1.cell (HB1.out.below hb hblt); have d2 := (HB1.out.below hb hblt).free 0; have d3 := Lw.Row1.cell (HB2.out.below hb hllt); have d4 := (HB2.out.below hb hllt).free 0; have HR := Lib.hid hr; have HBE := Lib.hid hb; clear hr hb))
    go_end0
    exact HPUT.out _ _ _ HBE.out HR.out hg HARG.out
  · have has := Ways.arg_step S.cost P h0
    obtain ⟨cA, hcA⟩ : ∃ v, S.cost (Ways.arg S.cost P) = v := ⟨_, rfl⟩
    rw [HCP2.out, hcA] at has
    rw [hcA] at hb2
    have c1 := Lw.Row1.cell hb1; have c2 := Lw.Row1.cell hb2
    have HB1 := Lib.hid hb1; have HB2 := Lib.hid hb2
    clear hb1 hb2 hb3 hcA
    by_cases hcmp : cP < cA
    · rw [if_pos hcmp] at has
      have HARG := Lib.hid has
      clear has
      go_enter Try.func131, Try.ntmps131
      go_wp2_with (first
        | (go_at_call 84; refine (slicesMax_any S.GE 0 _ S.mm _ _ HEL.out (by omega) m1 HE.out.rd).mono ?_; rintro e w' ⟨rfl, rfl⟩; rw [HCP.out])
        | (go_at_call 112; refine (clone_any _ S.GW S.nn S.nn _ HDL.out HRW.out.rd hGWlt n1 (by omega)).mono ?_; rintro e w4 ⟨G, c, rfl, hr, hg, hb⟩; have d1 := Lw.Row1.cell (HB1.out.below hb hblt); have d2 := (HB1.out.below hb hblt).free 0; have d3 := Lw.Row1.cell (HB2.out.below hb hllt); have d4 := (HB2.out.below hb hllt).free 0; have HR := Lib.hid hr; have HBE := Lib.hid hb; clear hr hb))
      go_end0
      exact HPUT.out _ _ _ HBE.out HR.out hg HARG.out
    · rw [if_neg hcmp] at has
      have hk : Lw.PutP S S.nn P (P + 1) (.returned (.tuple #[])) w := ⟨rfl, HST.out.keep h0 has⟩
      have HK := Lib.hid hk
      clear has hk
      go_enter Try.func131, Try.ntmps131
      go_wp2_with (go_at_call 84; refine (slicesMax_any S.GE 0 _ S.mm _ _ HEL.out (by omega) m1 HE.out.rd).mono ?_; rintro e w' ⟨rfl, rfl⟩; rw [HCP.out])
      go_end0
      exact HK.out
end Go.Proofs.Ytncmhinpjkkfkaa
