/-
  Walks: jobs that are all released at 0; the search for the best order. Conditions: none.
-/
import Derived.Test.YtncmhinpjkkfkaaK26
import Derived.Test.YtncmhinpjkkfkaaK14
import Derived.Test.YtncmhinpjkkfkaaSets
namespace Go.Proofs.Ytncmhinpjkkfkaa
open Go Go.RowKit
set_option linter.unusedVariables false
set_option linter.unusedSimpArgs false

def freeB (js : List J) : Bool := js.all fun j => j.rel == 0
def freeK (js : List J) (k : Nat) : Bool := freeB (js.take k)
theorem freeK_succ (js : List J) (k : Nat) (h : k < js.length) : freeK js (k + 1) = (freeK js k && (js[k].rel == 0)) := by
  unfold freeK freeB; rw [List.take_succ_eq_append_getElem h, List.all_append]; simp
theorem freeK_false (js : List J) (k : Nat) (h : freeK js k = false) : freeB js = false := by
  unfold freeK freeB at *
  rw [List.all_eq_false] at *
  obtain ⟨x, hx, hp⟩ := h
  exact ⟨x, List.mem_of_mem_take hx, hp⟩
theorem freeK_all (js : List J) (n : Nat) (hn : js.length = n) (h : freeK js n = true) : freeB js = true := by
  subst hn; unfold freeK at h; rwa [List.take_length] at h

set_option maxHeartbeats 1000000 in
theorem l02Free_any (g n c : Nat) (js : List J) (w : World) (hn : js.length = n) (hm : n ≤ 1048576) (hc : JRd w g 0 js) :
    Calls Try.prog 113 #[.slice (some ⟨g, 0, none⟩) n c] w fun e w' => e = .returned (.bool (freeB js)) ∧ w = w' := by
  have HN := Lib.hid hn
  have HC := Lib.hid hc
  clear hc hn
  go_enter Try.func113, Try.ntmps113
  go_wp2
  go_loop [3] (fun i => ∃ k : Nat, k ≤ n ∧ i = .int .i64 k ∧ freeK js k = true) (fun i => n - (intOf i).toNat)
  case atStart => exact ⟨0, Nat.zero_le _, rfl, by simp [freeK, freeB]⟩
  case round =>
    obtain ⟨k, hk, rfl, hno⟩ := hrel
    have HO := Lib.hid hno
    clear hno
    by_cases hlt : k < n
    · have hkx : k < js.length := by have := HN.out; omega
      obtain ⟨c0, c1, c2, c3⟩ := HC.out k hkx
      rw [Nat.zero_add] at c1
      have hs := freeK_succ js k hkx
      rw [HO.out, Bool.true_and] at hs
      have hf := freeK_false js (k + 1)
      have HS := Lib.hid hs; have HF := Lib.hid hf
      clear hs hf c0 c2 c3
      by_cases h1 : js[k].rel = 0
      · have h2 : freeK js (k + 1) = true := by rw [HS.out, h1]; rfl
        have H2 := Lib.hid h2
        rw [h1] at c1
        clear h1 h2
        go_wp2
        go_round
        case rel => exact ⟨k + 1, by omega, by go_num, H2.out⟩
        case measure => simp [intOf]; omega
      · have h2 : freeB js = false := HF.out (by rw [HS.out]; simpa using h1)
        have H2 := Lib.hid h2
        generalize js[k].rel = r at *
        have h3 : (r != 0) = true := by simpa using h1
        clear h1 h2
        go_wp2
        go_ret
        exact ⟨ret_bool H2.out.symm, rfl⟩
    · obtain rfl : k = n := by omega
      have hb := freeK_all js k HN.out HO.out
      have HB := Lib.hid hb; clear hb
      go_wp2
      go_ret
      exact ⟨ret_bool HB.out.symm, rfl⟩

theorem atOnceClo_any (a b c d : Int) (w : World) : Calls Try.prog 133 #[.agg #[.int .i64 a, .int .i64 b, .int .i64 c, .int .i64 d]] w fun e w' => e = .returned (.bool (b != 0)) ∧ Below w.heap.size w w' := by
  go_enter Try.func133, Try.ntmps133
  go_wp2
  go_ret
  exact ⟨rfl, (Below.refl _ _).alloc (Nat.le_refl _) _⟩

/-- An index at which a job is not free, or -1. -/
def FxP (js : List J) (w : World) (e : Ending) (w' : World) : Prop := ∃ r : Int, e = .returned (.int .i64 r) ∧ decide (0 ≤ r) = (!freeB js) ∧ Below w.heap.size w w'

set_option maxHeartbeats 2000000 in
theorem indexFunc_any (g n c : Nat) (js : List J) (w : World) (hn : js.length = n) (hm : n ≤ 1048576) (hc : JRd w g 0 js) (hg : g < w.heap.size) :
    Calls Try.prog 136 #[.slice (some ⟨g, 0, none⟩) n c, .func (.func 133) #[] #[]] w (FxP js w) := by
  have HN := Lib.hid hn
  have HC := Lib.hid hc
  clear hc hn
  go_enter Try.func136, Try.ntmps136
  go_wp2
  go_loopw [5, 8] (fun _ i wr => ∃ k : Nat, k ≤ n ∧ i = .int .i64 k ∧ freeK js k = true ∧ Below w.heap.size w wr) (fun _ i _ => n - (intOf i).toNat)
  case atStart => exact ⟨0, Nat.zero_le _, rfl, by simp [freeK, freeB], .refl _ _⟩
  case round =>
    obtain ⟨k, hk, rfl, hno, hb⟩ := hrel
    have HO := Lib.hid hno; have HB := Lib.hid hb
    clear hno hb
    by_cases hlt : k < n
    · have hkx : k < js.length := by have := HN.out; omega
      obtain ⟨c0, c1, c2, c3⟩ := HC.out.below HB.out hg k hkx
      rw [Nat.zero_add] at c0 c1 c2 c3
      have hs := freeK_succ js k hkx
      rw [HO.out, Bool.true_and] at hs
      have hf := freeK_false js (k + 1)
      have HS := Lib.hid hs; have HF := Lib.hid hf
      clear hs hf
      generalize js[k].time = ja at *
      generalize js[k].due = jc at *
      generalize js[k].wt = jd at *
      by_cases h1 : js[k].rel = 0
      · have h2 : freeK js (k + 1) = true := by rw [HS.out, h1]; rfl
        have H2 := Lib.hid h2
        rw [h1] at c1
        clear h1 h2
        go_wp2_with (go_at_call 133; refine (atOnceClo_any _ _ _ _ _).mono ?_; rintro e w1 ⟨rfl, hb1⟩; have HB1 := Lib.hid (HB.out.trans (hb1.mono HB.out.size)); clear hb1)
        go_roundw
        case rel => exact ⟨k + 1, by omega, by go_num, H2.out, HB1.out⟩
        case measure => simp [intOf]; omega
      · have h2 : freeB js = false := HF.out (by rw [HS.out]; simpa using h1)
        have H2 := Lib.hid h2
        generalize js[k].rel = r at *
        have h3 : (r != 0) = true := by simpa using h1
        clear h1 h2
        go_wp2_with (go_at_call 133; refine (atOnceClo_any _ _ _ _ _).mono ?_; rintro e w1 ⟨rfl, hb1⟩; rw [h3]; have HB1 := Lib.hid (HB.out.trans (hb1.mono HB.out.size)); clear hb1)
        go_ret
        exact ⟨_, rfl, by rw [H2.out]; simp, HB1.out⟩
    · obtain rfl : k = n := by omega
      have hb := freeK_all js k HN.out HO.out
      have HFB := Lib.hid hb; clear hb
      go_wp2
      go_ret
      exact ⟨_, rfl, by rw [HFB.out]; rfl, HB.out⟩

theorem containsFunc_any (g n c : Nat) (js : List J) (w : World) (hn : js.length = n) (hm : n ≤ 1048576) (hc : JRd w g 0 js) (hg : g < w.heap.size) :
    Calls Try.prog 132 #[.slice (some ⟨g, 0, none⟩) n c, .func (.func 133) #[] #[]] w fun e w' => e = .returned (.bool (!freeB js)) ∧ Below w.heap.size w w' := by
  have HN := Lib.hid hn
  have HC := Lib.hid hc
  clear hc hn
  go_enter Try.func132, Try.ntmps132
  go_wp2_with (go_at_call 136; refine (indexFunc_any g n c js _ HN.out hm HC.out hg).mono ?_; rintro e w1 ⟨r, rfl, hr, hb⟩; have HR := Lib.hid hr; have HB := Lib.hid hb; clear hr hb)
  go_ret
  exact ⟨ret_bool HR.out, HB.out⟩

def aoB (js : List J) : Bool := jobsB js && freeB js

theorem areAtOnce_any (g n c : Nat) (js : List J) (w : World) (hn : js.length = n) (hm : n ≤ 1048576) (hc : JRd w g 0 js) (hg : g < w.heap.size) :
    Calls Try.prog 115 #[.slice (some ⟨g, 0, none⟩) n c] w fun e w' => e = .returned (.bool (aoB js)) ∧ Below w.heap.size w w' := by
  have HN := Lib.hid hn
  have HC := Lib.hid hc
  clear hc hn
  cases hj : jobsB js
  · have hb : aoB js = false := by unfold aoB; rw [hj]; rfl
    have HJ := Lib.hid hj; have HB := Lib.hid hb
    clear hj hb
    go_enter Try.func115, Try.ntmps115
    go_wp2_with (go_at_call 32; refine (implAreJobs_any _ n c js _ HN.out hm (.inr ⟨g, 0, rfl, HC.out⟩)).mono ?_; rintro e w1 ⟨rfl, hb⟩; rw [HJ.out]; have HB1 := Lib.hid hb; clear hb)
    go_ret
    exact ⟨ret_bool HB.out.symm, HB1.out⟩
  · cases hf : freeB js
    all_goals
      have hb : aoB js = freeB js := by unfold aoB; rw [hj]; rfl
      rw [hf] at hb
      have HJ := Lib.hid hj; have HB := Lib.hid hb; have HF := Lib.hid hf
      clear hj hb hf
      go_enter Try.func115, Try.ntmps115
      go_wp2_with (first
        | (go_at_call 32; refine (implAreJobs_any _ n c js _ HN.out hm (.inr ⟨g, 0, rfl, HC.out⟩)).mono ?_; rintro e w1 ⟨rfl, hb⟩; rw [HJ.out]; have HB1 := Lib.hid hb; clear hb)
        | (go_at_call 132; refine (containsFunc_any g n c js _ HN.out hm (HC.out.below HB1.out hg) (by have := HB1.out.size; omega)).mono ?_; rintro e w2 ⟨rfl, hb⟩; rw [HF.out]; have HB2 := Lib.hid (HB1.out.trans (hb.mono HB1.out.size)); clear hb))
      go_ret
      exact ⟨ret_bool HB.out.symm, HB2.out⟩

def boB (js : List J) (kind : Int) : Bool := aoB js && (decide (js.length ≤ 10) && inB kind 0 4)

def boS (js : List J) (kind : Int) : Sets.Srch := ⟨js.length, fun i t => partV kind (jN js i) t, fun i => (jN js i).time, bothV kind⟩

theorem bothV_assoc (kind : Int) (a b c : Int) : bothV kind (bothV kind a b) c = bothV kind a (bothV kind b c) := by
  unfold bothV
  split
  · omega
  · omega

theorem jobsB_ok {js : List J} (h : jobsB js = true) : 1 ≤ js.length ∧ js.length ≤ 24 ∧ ∀ i (hi : i < js.length), JOk js[i] := by
  obtain ⟨a, b, c⟩ := jobsB_of h
  exact ⟨a, b, c⟩

theorem boS_bd {js : List J} {kind : Int} (h : boB js kind = true) : Sets.Srch.Bd (boS js kind) ∧ 1 ≤ js.length ∧ js.length ≤ 10 ∧ 0 ≤ kind ∧ kind ≤ 4 ∧ jobsB js = true ∧ freeB js = true ∧ ∀ i, i < js.length → JOk (jN js i) := by
  unfold boB aoB at h
  simp only [Bool.and_eq_true, decide_eq_true_eq] at h
  obtain ⟨⟨h1, h2⟩, h3, h4⟩ := h
  obtain ⟨a, b, c⟩ := jobsB_ok h1
  have hk := inB_lo h4
  have hJ : ∀ i, i < js.length → JOk (jN js i) := fun i hi => by rw [jN_eq hi]; exact c i hi
  refine ⟨⟨h3, fun i hi => ?_, fun i t hi t0 t1 => ?_, fun x y X Y a1 a2 a3 a4 => ?_⟩, a, h3, hk.1, hk.2, h1, h2, hJ⟩
  · have := hJ i hi; unfold JOk at this; show 0 ≤ (jN js i).time ∧ (jN js i).time ≤ 10000; omega
  · have := partV_bd (kind := kind) (hJ i hi) t0 t1
    show -10000000000 ≤ partV kind (jN js i) t ∧ partV kind (jN js i) t ≤ 10000000000; omega
  · show -(X + Y) ≤ bothV kind x y ∧ bothV kind x y ≤ X + Y
    unfold bothV
    split <;> omega

def boL (js : List J) (kind : Int) : List Int := ((boS js kind).st js.length).out
def boV (js : List J) (kind : Int) : Int := (boS js kind).R (boS js kind).all
theorem boL_len' (js : List J) (kind : Int) (s : Nat) : ((boS js kind).st s).out.length = s := by
  induction s with
  | zero => rfl
  | succ s ih => simp [Sets.Srch.st, Sets.Srch.push, ih]
def BoP (js : List J) (kind : Int) (w : World) (e : Ending) (w' : World) : Prop :=
  Res1 w (boL js kind) (fun v => .tuple #[v, .int .i64 (boV js kind), .bool true]) e w'
end Go.Proofs.Ytncmhinpjkkfkaa
