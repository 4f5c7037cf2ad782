/-
  Rows of cells that a call has made: what they hold, behind stores, new blocks and draws. Conditions: none.
-/
import Derived.WalkKit
import Derived.WalkLawsBesides
import Derived.WalkSpells
import Derived.Lib.Hide
import Derived.Deep.Draws
import Derived.Deep.QuietTactic
set_option linter.unusedVariables false
set_option linter.unusedSimpArgs false
namespace Go.Proofs.Ytncmhinpjkkfkaa
open Go Go.RowKit

/-- The same world but for draws. -/
def Dr (w w' : World) : Prop := ∃ n, w' = w.drewN n
theorem Dr.refl (w : World) : Dr w w := ⟨0, rfl⟩
theorem Dr.trans {a b c : World} (h : Dr a b) (k : Dr b c) : Dr a c := by
  obtain ⟨n, rfl⟩ := h; obtain ⟨m, rfl⟩ := k; exact ⟨n + m, by simp⟩
theorem Dr.drewN {a b : World} (h : Dr a b) (n : Nat) : Dr a (b.drewN n) := h.trans ⟨n, rfl⟩
theorem Dr.one (w : World) (n : Nat) : Dr w (w.drewN n) := ⟨n, rfl⟩
theorem Dr.below {B : Nat} {w w' : World} (h : Dr w w') : Below B w w' := by
  obtain ⟨n, rfl⟩ := h; exact below_drewN (Below.refl _ _) n
theorem quiet_dr {P : Program} {f : FuncId} {args : Array Value} {w : World} {n : Nat} {v : Value}
    (h : Calls P f args (w.drewN n) fun e w' => e = .returned v ∧ Dr (w.drewN n) w') : Calls P f args (w.drewN n) fun e w'' => e = .returned v ∧ ∃ m, w'' = w.drewN m :=
  Calls.quiet_of h

theorem quiet_eq {P : Program} {f : FuncId} {args : Array Value} {w : World} {n : Nat} {v : Value}
    (h : Calls P f args (w.drewN n) fun e w' => e = .returned v ∧ w.drewN n = w') : Calls P f args (w.drewN n) fun e w'' => e = .returned v ∧ ∃ m, w'' = w.drewN m :=
  h.mono fun _ _ ⟨he, hm⟩ => ⟨he, n, hm.symm⟩

theorem ret_bool {a b : Bool} (h : a = b) : Ending.returned (.bool a) = .returned (.bool b) := by rw [h]
theorem ret_int {k : IntKind} {a b : Int} (h : a = b) : Ending.returned (.int k a) = .returned (.int k b) := by rw [h]

/-- The cells of a list of integers, from place 'o' of block 'g' on. -/
def Rd (w : World) (g o : Nat) (xs : List Int) : Prop := ∀ j (h : j < xs.length), w.cell? ⟨g, o + j, none⟩ = some (.int .i64 xs[j])

theorem Rd.below {B : Nat} {w w' : World} {g o : Nat} {xs : List Int} (h : Rd w g o xs) (hb : Below B w w') (hg : g < B) : Rd w' g o xs :=
  fun j hj => (hb.cell (by exact hg)).trans (h j hj)
theorem Dr.rd {w w' : World} {g o : Nat} {xs : List Int} (h : Dr w w') (hr : Rd w g o xs) : Rd w' g o xs := by
  obtain ⟨n, rfl⟩ := h; exact hr

/-- Block g is a row of c cells of type T, the first of which hold vs. -/
def Row (w : World) (g : Nat) (T : TypeId) (c : Nat) (vs : List Value) : Prop :=
  ∃ cur : Array Value, w.heap[g]? = some (.cells cur T (0, 0)) ∧ cur.size = c ∧ vs.length ≤ c ∧ c ≤ maxLen ∧ cur.toList.take vs.length = vs

theorem Row.lt {w : World} {g c : Nat} {T : TypeId} {vs : List Value} (h : Row w g T c vs) : g < w.heap.size := by
  obtain ⟨cur, hg, _⟩ := h
  exact (Array.getElem?_eq_some_iff.1 hg).1

theorem Row.cap {w : World} {g c : Nat} {T : TypeId} {vs : List Value} (h : Row w g T c vs) : vs.length ≤ c := h.choose_spec.2.2.1

theorem Row.cell {w : World} {g c : Nat} {T : TypeId} {vs : List Value} (h : Row w g T c vs) (j : Nat) (hj : j < vs.length) : w.cell? ⟨g, j, none⟩ = some vs[j] := by
  obtain ⟨cur, hg, hc, hl, _, ht⟩ := h
  rw [cell_of_row w g j cur T (0, 0) hg]
  have h1 : vs[j]? = cur.toList[j]? := by
    conv => lhs; rw [← ht]
    rw [List.getElem?_take, if_pos hj]
  rw [List.getElem?_eq_getElem hj] at h1
  rw [h1]; simp

theorem Row.free {w : World} {g c : Nat} {T : TypeId} {vs : List Value} (h : Row w g T c vs) (j : Nat) : w.frozen? ⟨g, j, none⟩ = false := by
  obtain ⟨cur, hg, _⟩ := h
  exact frozen_of_row w g j cur T hg

theorem Row.set {w : World} {g c : Nat} {T : TypeId} {vs : List Value} (h : Row w g T c vs) (j : Nat) (u : Value) : Row (w.setCell ⟨g, j, none⟩ u) g T c (vs.set j u) := by
  obtain ⟨cur, hg, hc, hl, hm, ht⟩ := h
  refine ⟨cur.setIfInBounds j u, heap_setCell_same w g j cur T u hg, by simpa using hc, by simpa using hl, hm, ?_⟩
  rw [Array.toList_setIfInBounds, List.length_set, List.take_set, ht]

theorem Row.other {w : World} {g c : Nat} {T : TypeId} {vs : List Value} (h : Row w g T c vs) {a : Addr} (ha : g ≠ a.block) (u : Value) : Row (w.setCell a u) g T c vs := by
  obtain ⟨cur, hg, r⟩ := h
  exact ⟨cur, by rw [heap_setCell_other w a g u ha]; exact hg, r⟩

theorem Row.alloc {w : World} {g c : Nat} {T : TypeId} {vs : List Value} (h : Row w g T c vs) (o : Obj) : Row (w.alloc o) g T c vs := by
  have hl := h.lt
  obtain ⟨cur, hg, r⟩ := h
  exact ⟨cur, by rw [Below.heap_alloc w o g hl]; exact hg, r⟩

theorem Row.below {B : Nat} {w w' : World} {g c : Nat} {T : TypeId} {vs : List Value} (h : Row w g T c vs) (hb : Below B w w') (hg : g < B) : Row w' g T c vs := by
  obtain ⟨cur, hh, r⟩ := h
  exact ⟨cur, by rw [hb.block g hg]; exact hh, r⟩

theorem Row.dr {w w' : World} {g c : Nat} {T : TypeId} {vs : List Value} (h : Row w g T c vs) (hd : Dr w w') : Row w' g T c vs := by
  obtain ⟨n, rfl⟩ := hd; exact h

theorem Row.rd {w : World} {g c : Nat} {T : TypeId} {xs : List Int} (h : Row w g T c (xs.map (Value.int .i64))) : Rd w g 0 xs := fun j hj => by
  rw [Nat.zero_add, h.cell j (by simpa using hj)]; simp

theorem Row.of_owns {w : World} {B g n c : Nat} {T : TypeId} {vs : List Value} (h : w.ownsRow B T 1 (.slice (some ⟨g, 0, none⟩) n c) n vs) : Row w g T c vs ∧ vs.length = n ∧ B ≤ g := by
  obtain ⟨h1, h2⟩ := h
  rcases h2 with ⟨h0, _⟩ | ⟨g', cap, cur, hv, hb, hh, hn, hm, hs, ht⟩
  · cases h0
  · cases hv
    rw [Nat.mul_one] at h1 hs ht
    exact ⟨⟨cur, hh, hs, by omega, hm, by rw [h1]; exact ht⟩, h1, hb⟩

theorem Row.owns {w : World} {B g n c : Nat} {T : TypeId} {vs : List Value} (h : Row w g T c vs) (hn : vs.length = n) (hB : B ≤ g) : w.ownsRow B T 1 (.slice (some ⟨g, 0, none⟩) n c) n vs := by
  obtain ⟨cur, hg, hc, hl, hm, ht⟩ := h
  exact ⟨by omega, .inr ⟨g, c, cur, rfl, hB, hg, by omega, hm, by omega, by rw [Nat.mul_one, ← hn]; exact ht⟩⟩

theorem below_of_grown {w w' : World} (h : w.grownBy w' none) : Below w.heap.size w w' :=
  ⟨h.os, h.tape, h.output, h.size, fun k hk => h.block k hk (by simp)⟩

/-- make([]T, n) -/
theorem wp_make {P : Program} {w : World} {ops : Array Oper} {rest : List Oper} {o : Oper} {a : Act} {Q : Exit → Act → World → Prop}
    (hg : o.guard = none) (l : Operand) (t : TypeId) (hop : o.op = Op.makeSlice t l l) (e : TypeId) (z : Value) (by' : Nat)
    (h1 : P.underlying t = some (.slice e)) (h2 : (P.info? e).map (fun i => (i.zero, i.size, i.bytes)) = some (some z, 1, by')) (hz : z.cells = #[z])
    (n : Nat) (kl : IntKind) (L : Int) (hl : a.eval l = .int kl L) (hL : L = (n : Int)) (hb : by' * n ≤ 281474976710656) (hn : n ≤ maxLen)
    (hK : ∀ w', Row w' w.heap.size e n (List.replicate n z) → Below w.heap.size w w' → wpList P ops Q rest (a.put o.dst (.slice (some ⟨w.heap.size, 0, none⟩) n n)) w') :
    wpList P ops Q (o :: rest) a w := by
  obtain ⟨i0, hi, hz0, hz1, hz2⟩ := info_parts h2
  refine wpList_make_full w hg l l t hop w.heap.size e i0 z 1 h1 hi hz0 hz1 kl kl L L n hl hl hL hL (by rw [hz2]; exact hb) hn (Nat.le_refl _) fun w' h hgr => ?_
  rw [hz, Nat.mul_one, toList_madeCells_one] at h
  exact hK w' (Row.of_owns h).1 (below_of_grown hgr)
end Go.Proofs.Ytncmhinpjkkfkaa
