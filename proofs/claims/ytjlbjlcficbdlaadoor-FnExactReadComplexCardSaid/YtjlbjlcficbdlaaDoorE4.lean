/-
  Walks: the law NumbersText. Conditions: the library's tables lie as their initialisers lay them.
-/
import Derived.Test.YtjlbjlcficbdlaaDoorE3
set_option linter.unusedVariables false
set_option linter.unusedSimpArgs false
namespace Go.Proofs.YtjlbjlcficbdlaaDoor
open Go Go.RowKit Flo Fl

/-- A slice of 32-bit floats that came in. -/
def IsFlB (w : World) (a : Option Addr) (len : Nat) (zs : List Nat) : Prop := IsFl w a len zs ∧ U32 zs

theorem trod_floatB {H : Type} {enc : TypeId × Value → H} {W : World} {n : Nat} {cs : List Value} {x : DataW H × List MemPlace}
    (h : DataW.trod enc Tryd.prog W 0 (fun _ => true) true n 56 cs = some x) : ∃ v, cs = [.float .f32 v] ∧ v < 4294967296 := by
  cases n with
  | zero => simp [DataW.trod] at h
  | succ n =>
    unfold DataW.trod at h
    simp only [Tryd.underlying56] at h
    split at h <;> simp_all
    have h2 := h.1.2
    subst_vars
    simpa [Lit.wf] using h2

theorem open_float32 {H : Type} {enc : TypeId × Value → H} {W : World} {a : Option Addr} {len cap : Nat} {d : DataW H} {p : List MemPlace}
    (h : DataW.Trod enc Tryd.prog W 0 (fun _ => true) true 36 (.slice a len cap) d p) : ∃ zs, IsFlB W a len zs := by
  obtain ⟨fuel, hf⟩ := h
  rcases Go.Deep.open_slice Tryd.underlying36 hf with ⟨hcs, _⟩ | ⟨x, l, c, m, n, D, Pl, hcs, _, hl, hmx, hmm, _, hi⟩
  · simp [Value.cells] at hcs
    obtain ⟨rfl, rfl, rfl⟩ := hcs
    exact ⟨[], ⟨rfl, .inl rfl⟩, by intro x hx; cases hx⟩
  · simp [Value.cells] at hcs
    obtain ⟨rfl, rfl, rfl⟩ := hcs
    simp only [if_true] at hmm
    subst hmm
    have key : ∀ i, i < len → ∃ v, W.cell? (x.add i) = some (.float .f32 v) ∧ v < 4294967296 := by
      intro i hil
      obtain ⟨cs', hc, ht⟩ := hi i (by omega)
      rw [Fl.Tryd.cells56] at hc
      obtain ⟨v, rfl, hv⟩ := trod_floatB ht
      obtain ⟨_, hcl, hat⟩ := World.cells?_some hc
      refine ⟨v, ?_, hv⟩
      have := hat 0 (by simp)
      simpa [Go.Deep.add_add] using this
    have hall : ∀ i (h : i < len), ((List.range len).map fun i => if h : i < len then (key i h).choose else 0)[i]'(by simpa using h) = (key i h).choose := by
      intro i h
      simp only [List.getElem_map, List.getElem_range, dif_pos h]
    refine ⟨(List.range len).map fun i => if h : i < len then (key i h).choose else 0, ⟨by simp, ?_⟩, ?_⟩
    · by_cases h0 : len = 0
      · exact .inl h0
      · obtain ⟨b, off, spot⟩ := x
        have hspot : spot = none := by
          have := (key 0 (by omega)).choose_spec.1
          simpa [Addr.add] using World.cell?_spot this
        subst hspot
        refine .inr ⟨b, off, rfl, fun i hi' => ?_⟩
        have hil : i < len := by simpa using hi'
        rw [hall i hil, ← Fl.addr_add]
        exact (key i hil).choose_spec.1
    · intro v hv
      obtain ⟨i, hi, rfl⟩ := List.getElem_of_mem hv
      have hil : i < len := by simpa using hi
      rw [hall i hil]
      exact (key i hil).choose_spec.2

def deB : List Int := [0, 1, 56, 2, 57, 49, 28, 3, 61, 58, 42, 50, 38, 29, 17, 4, 62, 47, 59, 36, 45, 43, 51, 22, 53, 39, 33, 30, 24, 18, 12, 5, 63, 55, 48, 27, 60, 41, 37, 16, 46, 35, 44, 21, 52, 32, 23, 11, 54, 26, 40, 15, 34, 20, 31, 10, 25, 14, 19, 9, 13, 8, 7, 6]
theorem gTz : Tryd.prog.globalNamed "math/bits.deBruijn64tab" = some 5 := by kernel_rfl
theorem gTzType : (Tryd.prog.globals[5]?).map (·.type) = some 138 := by kernel_rfl
theorem tz_of_laid {W : World} {a : String × DataW Unit} {r : List (String × DataW Unit)} (h : laidMet Tryd.prog (a :: ("math/bits.deBruijn64tab", Rows.laid_math_bits_deBruijn64tab) :: r) W) : Tz W := by
  have h1 : Lib.TabIs Tryd.prog W "math/bits.deBruijn64tab" .u8 deB :=
    Lib.tabIs_of_head gTz gTzType Tryd.underlying138 Tryd.underlying5 (by kernel_rfl) (by kernel_rfl) h.tail
  exact h1.cell gTz 15 (by decide)

set_option maxHeartbeats 4000000 in
set_option maxRecDepth 100000 in
theorem numbersText_walk (a0 : Option Addr) (len0 cap0 : Nat) (z0 : List Nat) (w : World) (w0 : IsFlB w a0 len0 z0) (hp : Tz w) :
    Calls Tryd.prog 7 #[.slice a0 len0 cap0] w fun e w' => e = .returned (.bool true) ∧ Below w.heap.size w w' := by
  by_cases h0 : len0 ≤ 1048576
  case neg =>
    clear w0 hp
    go_enter Tryd.func7, Tryd.ntmps7
    go_wp2
    go_ret
    exact ⟨rfl, .refl _ _⟩
  obtain ⟨w0, hU⟩ := w0
  have HL := Lib.hid w0.1
  have W0 := Lib.hid w0; have HP := Lib.hid hp; have HU := Lib.hid hU
  clear w0 hp hU
  obtain ⟨vt, hvt⟩ : ∃ v, ntV z0 = v := ⟨_, rfl⟩
  have HV := Lib.hid hvt
  obtain ⟨t, b, hv2⟩ : ∃ (t : ByteArray) (b : Bool), ntV z0 = .tuple #[.string t, .bool b] := by
    unfold ntV
    split
    · exact ⟨_, _, rfl⟩
    · exact ⟨_, _, rfl⟩
  have HV2 := Lib.hid hv2
  have hcmp := (same_text t t).trans (decide_eq_true rfl)
  have hbb : (b != b) = false := by simp
  have hbe : (b == b) = true := by simp
  clear hvt hv2
  go_enter Tryd.func7, Tryd.ntmps7
  go_wp2_with fail
  go_at_call 23
  refine (Fl.toFloat32S_any a0 len0 cap0 z0 _ W0.out h0).mono ?_
  rintro e w1 ⟨g1, rfl, hr, hg, hb⟩
  rw [HL.out]
  have R1 := Lib.hid hr; have B1 := Lib.hid hb; clear hr hb hg
  go_wp2_with fail
  go_at_call 22
  refine (specNumbersText_any _ g1 len0 len0 z0 HL.out h0 (Fl.FRow.rd R1.out) (Fl.FRow.lt R1.out) HU.out).mono ?_
  rintro e w2 ⟨rfl, hb⟩
  rw [HV2.out]
  have B2 := Lib.hid (B1.out.trans (hb.mono B1.out.size)); clear hb R1
  go_wp2_with fail
  go_at_call 23
  refine (Fl.toFloat32S_any a0 len0 cap0 z0 _ (Fl.IsFl.below W0.out B2.out) h0).mono ?_
  rintro e w3 ⟨g3, rfl, hr, hg, hb⟩
  rw [HL.out]
  have R3 := Lib.hid hr; have B3 := Lib.hid (B2.out.trans (hb.mono B2.out.size)); clear hr hb hg
  go_wp2_with fail
  go_at_call 24
  refine (implNumbersText_any _ g3 len0 len0 z0 HL.out h0 (Fl.FRow.rd R3.out) (Fl.FRow.lt R3.out) HU.out (HP.out.below B3.out)).mono ?_
  rintro e w4 ⟨rfl, hb⟩
  rw [HV2.out]
  have R4 := Lib.hid (Fl.FRow.below R3.out hb (Fl.FRow.lt R3.out)); have B4 := Lib.hid (B3.out.trans (hb.mono B3.out.size)); clear hb R3
  cases b
  all_goals (
    go_wp2_with fail
    go_at_call 23
    refine (Fl.toFloat32S_any a0 len0 cap0 z0 _ (Fl.IsFl.below W0.out B4.out) h0).mono ?_
    rintro e w5 ⟨g5, rfl, hr, hg, hb⟩
    rw [HL.out]
    have R5 := Lib.hid hr; have R4' := Lib.hid (Fl.FRow.below R4.out hb (Fl.FRow.lt R4.out)); have B5 := Lib.hid (B4.out.trans (hb.mono B4.out.size)); clear hr hb hg
    go_wp2_with fail
    go_at_call 25
    refine (Fl.eqFloat32S_any _ _ _ _ _ _ _ z0 _ HL.out (Fl.FRow.rd R4'.out) (Fl.FRow.rd R5.out) h0).mono ?_
    rintro e w6 ⟨rfl, hd⟩
    have B6 := Lib.hid (B5.out.trans (hd.below (B := w.heap.size))); clear hd
    go_wp2
    go_ret
    exact ⟨rfl, B6.out⟩)

theorem numbersText_law (a0 : Option Addr) (len0 cap0 : Nat) (z0 : List Nat) (w : World) (w0 : IsFlB w a0 len0 z0) (hL : laidMet Tryd.prog Rows.fnExactNumbersTextRow.laid w) :
    Calls Tryd.prog 7 #[.slice a0 len0 cap0] w fun e w' => e = .returned (.bool true) ∧ Below w.heap.size w w' :=
  numbersText_walk a0 len0 cap0 z0 w w0 (tz_of_laid hL)

end Go.Proofs.YtjlbjlcficbdlaaDoor
