/-
  A slice of jobs among a law's arguments, opened; the laws AreJobs and SameJobs. Conditions: none.
-/
import Derived.Test.YtncmhinpjkkfkaaK3
import Derived.Deep.Slices
import Derived.ProofKit
set_option linter.unusedVariables false
set_option linter.unusedSimpArgs false
namespace Go.Proofs.Ytncmhinpjkkfkaa
open Go Go.RowKit Go.ChangeShapes Go.WideShapes

theorem Try.fields69 : ∃ fs : Array Field, Try.prog.underlying 69 = some (.struct fs) ∧ fs.size = 4 ∧ ∀ i, i < 4 → ∃ f, fs[i]? = some f ∧ f.offset = i ∧ f.type = 2 := by
  refine ⟨_, Try.underlying69, rfl, fun i hi => ?_⟩
  match i, hi with
  | 0, _ => exact ⟨_, rfl, rfl, rfl⟩
  | 1, _ => exact ⟨_, rfl, rfl, rfl⟩
  | 2, _ => exact ⟨_, rfl, rfl, rfl⟩
  | 3, _ => exact ⟨_, rfl, rfl, rfl⟩

theorem Try.cells69 : Try.prog.cellsOf 69 = 4 := by kernel_rfl
theorem Try.cells2 : Try.prog.cellsOf 2 = 1 := by kernel_rfl

theorem open_Job {H : Type} {enc : TypeId × Value → H} {W : World} {a : Option Addr} {len cap : Nat} {d : DataW H} {p : List MemPlace}
    (h : DataW.Trod enc Try.prog W 0 (fun _ => true) true 26 (.slice a len cap) d p) : ∃ js, IsJobs W a len js ∧ len ≤ maxLen := by
  obtain ⟨fuel, hf⟩ := h
  rcases Go.Deep.open_slice Try.underlying26 hf with ⟨hcs, _⟩ | ⟨x, l, c, m, n, D, Pl, hcs, _, hl, hmx, hmm, _, hi⟩
  · simp [Value.cells] at hcs
    obtain ⟨rfl, rfl, rfl⟩ := hcs
    exact ⟨[], ⟨rfl, .inl rfl⟩, by decide⟩
  · simp [Value.cells] at hcs
    obtain ⟨rfl, rfl, rfl⟩ := hcs
    simp only [if_true] at hmm
    subst hmm
    obtain ⟨fs, hs, hsz, hfs⟩ := Try.fields69
    have key : ∀ i, i < len → ∃ j : J, ∀ f, f < 4 → W.cell? (x.add (i * 4 + f)) = some (fld j f) := by
      intro i hil
      obtain ⟨cs', hc, ht⟩ := hi i (by omega)
      rw [Try.cells69] at hc
      obtain ⟨ys, n', _, _, hlen, hyl, hg⟩ := DataW.trod_struct hs ht
      rw [Try.cells69] at hlen
      obtain ⟨_, hcl, hat⟩ := World.cells?_some hc
      have one : ∀ f, f < 4 → ∃ v : Int, cs'[f]? = some (.int .i64 v) := by
        intro f hf4
        obtain ⟨fd, hfd, ho, hty⟩ := hfs f hf4
        have h1 := hg f fd hfd
        rw [ho, hty, Try.cells2] at h1
        have hy : ys[f]? = some (ys[f]'(by omega)) := List.getElem?_eq_getElem (by omega)
        rw [hy] at h1
        obtain ⟨v, hv, _, _⟩ := DataW.trod_int Try.underlying2 h1
        refine ⟨v, ?_⟩
        have : ((cs'.drop f).take 1)[0]? = some (.int .i64 v) := by rw [hv]; rfl
        simpa using this
      obtain ⟨v0, h0⟩ := one 0 (by omega)
      obtain ⟨v1, h1⟩ := one 1 (by omega)
      obtain ⟨v2, h2⟩ := one 2 (by omega)
      obtain ⟨v3, h3⟩ := one 3 (by omega)
      refine ⟨⟨v0, v1, v2, v3⟩, fun f hf4 => ?_⟩
      rw [← Go.Deep.add_add, hat f hf4]
      match f, hf4 with
      | 0, _ => exact h0
      | 1, _ => exact h1
      | 2, _ => exact h2
      | 3, _ => exact h3
    refine ⟨(List.range len).map fun i => if h : i < len then (key i h).choose else default, ⟨by simp, ?_⟩, by omega⟩
    by_cases h0 : len = 0
    · exact .inl h0
    · obtain ⟨b, off, spot⟩ := x
      have hspot : spot = none := by
        have := (key 0 (by omega)).choose_spec 0 (by omega)
        simpa [Addr.add] using World.cell?_spot this
      subst hspot
      refine .inr ⟨b, off, rfl, fun i hi' => ?_⟩
      have hil : i < len := by simpa using hi'
      have hk := (key i hil).choose_spec
      have e : ((List.range len).map fun i => if h : i < len then (key i h).choose else default)[i] = (key i hil).choose := by
        simp only [List.getElem_map, List.getElem_range, dif_pos hil]
      rw [e]
      have k0 := hk 0 (by omega); have k1 := hk 1 (by omega); have k2 := hk 2 (by omega); have k3 := hk 3 (by omega)
      rw [addr_add] at k0 k1 k2 k3
      exact ⟨k0, by rw [Nat.add_assoc]; exact k1, by rw [Nat.add_assoc]; exact k2, by rw [Nat.add_assoc]; exact k3⟩

theorem IsJobs.len {w : World} {a : Option Addr} {len : Nat} {js : List J} (h : IsJobs w a len js) : js.length = len := h.1

theorem szV_neg (l : Int) (n : Nat) : (szV l n < 0) ↔ l < n := by unfold szV; split <;> omega

set_option maxHeartbeats 1000000 in
theorem areJobs_walk (a0 : Option Addr) (len0 cap0 : Nat) (z0 : List J) (w : World) (w0 : IsJobs w a0 len0 z0 ∧ len0 ≤ maxLen) :
    Calls Try.prog 5 #[.slice a0 len0 cap0] w fun e w' => e = .returned (.bool true) ∧ Below w.heap.size w w' := by
  obtain ⟨w0, hlen⟩ := w0
  have W0 := Lib.hid w0; clear w0
  unfold maxLen at hlen
  by_cases h : len0 ≤ 1048576
  · have hz : szV 1048576 len0 = 1048576 - len0 := by unfold szV; rw [if_neg (by omega)]
    have HZ := Lib.hid hz; clear hz
    have hL := W0.out.1
    have HL := Lib.hid hL; clear hL
    go_enter Try.func5, Try.ntmps5
    go_wp2_with fail
    go_at_call 26
    refine (szJobS_any _ _ _ _ _ (by omega) (by omega) (by omega)).mono ?_
    rintro e w' ⟨rfl, rfl⟩
    rw [HZ.out]
    go_wp2_with fail
    go_at_call 28
    refine (toJobS_any a0 len0 cap0 z0 _ W0.out h).mono ?_
    rintro e w1 ⟨g1, rfl, hr1, hg1, hb1⟩
    have R1 := Lib.hid hr1; have B1 := Lib.hid hb1; clear hr1 hb1
    rw [HL.out]
    go_wp2_with fail
    go_at_call 31
    refine (specAreJobs_any _ _ _ z0 _ HL.out h R1.out.at').mono ?_
    rintro e w' ⟨rfl, rfl⟩
    go_wp2_with fail
    go_at_call 28
    refine (toJobS_any a0 len0 cap0 z0 _ (W0.out.below B1.out) h).mono ?_
    rintro e w3 ⟨g3, rfl, hr3, hg3, hb3⟩
    have R3 := Lib.hid hr3; have B3 := Lib.hid (B1.out.trans (hb3.mono B1.out.size)); clear hr3 hb3
    rw [HL.out]
    go_wp2_with fail
    go_at_call 32
    refine (implAreJobs_any _ _ _ z0 _ HL.out h R3.out.at').mono ?_
    rintro e w4 ⟨rfl, hb4⟩
    have R4 : Hid (JRow w4 g3 z0) := Lib.hid (Row.below R3.out hb4 R3.out.lt)
    have B4 := Lib.hid (B3.out.trans (hb4.mono B3.out.size)); clear hb4
    go_wp2_with fail
    go_at_call 28
    refine (toJobS_any a0 len0 cap0 z0 _ (W0.out.below B4.out) h).mono ?_
    rintro e w5 ⟨g5, rfl, hr5, hg5, hb5⟩
    have R5 := Lib.hid hr5
    have R45 : Hid (JRow w5 g3 z0) := Lib.hid (Row.below R4.out hb5 R4.out.lt)
    have B5 := Lib.hid (B4.out.trans (hb5.mono B4.out.size)); clear hr5 hb5
    rw [HL.out]
    go_wp2_with fail
    go_at_call 30
    refine (eqJobS_any _ _ len0 len0 len0 len0 z0 z0 _ HL.out HL.out R45.out.at' R5.out.at' h h).mono ?_
    rintro e w6 ⟨rfl, hd6⟩
    rw [eqJs_self]
    go_wp2
    go_ret
    exact ⟨rfl, B5.out.trans (hd6.mono B5.out.size)⟩
  · have hz : szV 1048576 len0 = -1 := by unfold szV; rw [if_pos (by omega)]
    have HZ := Lib.hid hz; clear hz
    go_enter Try.func5, Try.ntmps5
    go_wp2_with fail
    go_at_call 26
    refine (szJobS_any _ _ _ _ _ (by omega) (by omega) (by omega)).mono ?_
    rintro e w' ⟨rfl, rfl⟩
    rw [HZ.out]
    go_wp2
    go_ret
    exact ⟨rfl, .refl _ _⟩
end Go.Proofs.Ytncmhinpjkkfkaa
