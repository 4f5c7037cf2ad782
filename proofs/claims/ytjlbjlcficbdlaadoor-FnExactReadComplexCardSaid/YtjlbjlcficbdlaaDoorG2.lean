/-
  Walks: slices of complex numbers of 32-bit parts: marked, found again, compared. Conditions: none.
-/
import Derived.Test.YtjlbjlcficbdlaaDoorE5
import Derived.Test.YtjlbjlcficbdlaaDoorG1
set_option linter.unusedVariables false
set_option linter.unusedSimpArgs false
namespace Go.Proofs.YtjlbjlcficbdlaaDoor
open Go Go.RowKit Flo Fl

theorem run_store_complex (P : Program) (w : World) (a : Addr) (m : Mode) (k : FloatKind) (x y : Nat) : (store a (.complex k x y) m).run P w = stored P w a (.complex k x y) m := run_store P w a _ m rfl
theorem run_cconv {P : Program} (w : World) (src dst : TypeId) (s k : FloatKind) (a b : Nat) (hs : (P.underlying src).isSome = true) (hd : P.underlying dst = some (.complex k)) :
    (convert src dst (.complex s a b)).run P w = .ok (.complex k (cres s k w a) (cres s k (w.drewN (ccnt s k a)) b)) ((w.drewN (ccnt s k a)).drewN (ccnt s k b)) := by
  obtain ⟨u, hs'⟩ := Option.isSome_iff_exists.1 hs
  have key : ∀ (w : World) (b : Nat), (Conv.floatToFloat s b k).run P w = .ok (.float k (cres s k w b)) (w.drewN (ccnt s k b)) := by
    intro w b
    by_cases hk : s = k
    · subst hk
      simp [Conv.floatToFloat, cres, ccnt, World.drewN_zero]
    · cases he : s.decode b with
      | nan g t => simp [Conv.floatToFloat, cres, ccnt, hk, he, choose, Sem.run, Question.forced, World.drewN]
      | infinity g => simp [Conv.floatToFloat, cres, ccnt, hk, he, World.drewN_zero]
      | number g m e =>
        by_cases ho : (k.decode (k.encode (.number g m e))).isInfinity = true
        · simp [Conv.floatToFloat, cres, ccnt, hk, he, ho, choose, Sem.run, Question.forced, World.drewN]
        · simp [Conv.floatToFloat, cres, ccnt, hk, he, ho, World.drewN_zero]
  cases u <;> simp [convert, run_underlying hs', run_underlying hd, Conv.complexToComplex, key]

/-- A complex number's cell. -/
def cV (v : Nat × Nat) : Value := .complex .f32 v.1 v.2
theorem Tryd.info64 : (Tryd.prog.info? 64).map (fun i => (i.zero, i.size, i.bytes)) = some (some (.complex .f32 0 0), 1, 8) := by kernel_rfl

/-- The cells of a list of complex numbers, from place 'o' of block 'g' on. -/
def Cd (w : World) (g o : Nat) (xs : List (Nat × Nat)) : Prop := ∀ j (h : j < xs.length), w.cell? ⟨g, o + j, none⟩ = some (.complex .f32 xs[j].1 xs[j].2)
theorem Cd.below {B : Nat} {w w' : World} {g o : Nat} {xs : List (Nat × Nat)} (h : Cd w g o xs) (hb : Below B w w') (hg : g < B) : Cd w' g o xs :=
  fun j hj => (hb.cell (by exact hg)).trans (h j hj)
theorem Cd.dr {w w' : World} {g o : Nat} {xs : List (Nat × Nat)} (h : Dr w w') (hr : Cd w g o xs) : Cd w' g o xs := by
  obtain ⟨n, rfl⟩ := h; exact hr
theorem row_cd {w : World} {G cap : Nat} {xs : List (Nat × Nat)} (h : Row w G 64 cap (xs.map cV)) : Cd w G 0 xs := fun j hj => by
  rw [Nat.zero_add, h.cell j (by simpa using hj)]; simp [cV]

/-! ### Marks -/
theorem fconv_cnt {s d : FloatKind} {b : Nat} (w : World) (h : ccnt s d b = 0) : cres s d w b = fconv s d b := by
  unfold ccnt at h; unfold cres fconv
  by_cases hk : s = d
  · simp only [if_pos hk]
  · simp only [if_neg hk] at h ⊢
    cases he : s.decode b with
    | nan g t => simp [he] at h
    | infinity g => rfl
    | number g m e =>
      simp only [he] at h
      by_cases ho : (d.decode (d.encode (.number g m e))).isInfinity = true
      · simp [ho] at h
      · simp [ho]
/-- The real part of the mark k. -/
def ck (k : Nat) : Nat := fconv .f64 .f32 (floatOfInt .f64 (k : Int))
theorem ck_all : ((List.range 301).all fun k => ccnt .f64 .f32 (floatOfInt .f64 (k : Int)) == 0 && (FloatKind.f32.format.order (ck k) (ck k) == some .eq)) = true := by kernel_rfl
theorem ck_one : ccnt .f64 .f32 4607182418800017408 = 0 ∧ fconv .f64 .f32 4607182418800017408 = 1065353216 ∧ FloatKind.f32.format.order 1065353216 1065353216 = some .eq := by decide +kernel
theorem ck_cnt {k : Nat} (h : k ≤ 300) : ccnt .f64 .f32 (floatOfInt .f64 (k : Int)) = 0 := by
  have h1 := List.all_eq_true.1 ck_all k (List.mem_range.2 (by omega))
  rw [Bool.and_eq_true] at h1
  simpa using h1.1
theorem ck_self {k : Nat} (h : k ≤ 300) : (FloatKind.f32.format.order (ck k) (ck k) == some .eq) = true := by
  have h1 := List.all_eq_true.1 ck_all k (List.mem_range.2 (by omega))
  rw [Bool.and_eq_true] at h1
  exact h1.2
theorem conv_mark {k : Nat} (h : k ≤ 300) (W : World) : (convert 67 64 (.complex .f64 (floatOfInt .f64 (k : Int)) 4607182418800017408)).run Tryd.prog W = .ok (.complex .f32 (ck k) 1065353216) W := by
  have h0 := ck_cnt h
  obtain ⟨h1, h2, _⟩ := ck_one
  rw [run_cconv W 67 64 .f64 .f32 _ _ (by rw [Tryd.underlying67]; rfl) Tryd.underlying64, h0, h1, World.drewN_zero, World.drewN_zero, fconv_cnt _ h0, fconv_cnt _ h1, h2]
  rfl

def ckP (k : Nat) : Nat × Nat := (ck k, 1065353216)
def iotaC (k0 n : Nat) : List (Nat × Nat) := (List.range n).map fun (p : Nat) => ckP (k0 + p)
theorem iotaC_len (k0 n : Nat) : (iotaC k0 n).length = n := by simp [iotaC]
def markC (xs : List (Nat × Nat)) (k0 j : Nat) : List Value := (List.range xs.length).map fun (p : Nat) => cV (if p < j then ckP (k0 + p) else xs.getD p (0, 0))
theorem markC_len (xs : List (Nat × Nat)) (k0 j : Nat) : (markC xs k0 j).length = xs.length := by simp [markC]
theorem markC_zero (xs : List (Nat × Nat)) (k0 : Nat) : markC xs k0 0 = xs.map cV := by
  unfold markC
  refine List.ext_getElem (by simp) fun i h1 h2 => ?_
  have hi : i < xs.length := by simpa using h1
  simp [List.getD, List.getElem?_eq_getElem hi]
theorem markC_all (xs : List (Nat × Nat)) (k0 : Nat) : markC xs k0 xs.length = (iotaC k0 xs.length).map cV := by
  unfold markC iotaC
  refine List.ext_getElem (by simp) fun i h1 h2 => ?_
  have hi : i < xs.length := by simpa using h1
  simp [hi]
theorem markC_set (xs : List (Nat × Nat)) (k0 j : Nat) (h : j < xs.length) : (markC xs k0 j).set j (cV (ckP (k0 + j))) = markC xs k0 (j + 1) := by
  unfold markC
  refine List.ext_getElem (by simp) fun i h1 h2 => ?_
  rw [List.getElem_set]
  by_cases e : j = i
  · subst e; simp
  · rw [if_neg e]
    simp only [List.getElem_map, List.getElem_range]
    by_cases e2 : i < j
    · rw [if_pos e2, if_pos (by omega)]
    · rw [if_neg e2, if_neg (by omega)]

def MarkedC (w : World) (g c n k0 : Nat) (e : Ending) (w' : World) : Prop :=
  e = .returned (.int .i64 ((k0 : Int) + n)) ∧ Row w' g 64 c ((iotaC k0 n).map cV) ∧ Touch g w w'

section
attribute [local go_sem] run_store_complex
set_option maxHeartbeats 1000000 in
theorem markC_any (w : World) (g n c : Nat) (xs : List (Nat × Nat)) (k0 : Nat) (hn : xs.length = n) (hm : n ≤ 256) (b1 : k0 ≤ 10) (hr : Row w g 64 c (xs.map cV)) :
    Calls Tryd.prog 33 #[.slice (some ⟨g, 0, none⟩) n c, .int .i64 k0] w (MarkedC w g c n k0) := by
  have hfin : ∀ w', Row w' g 64 c (markC xs k0 n) → Touch g w w' → MarkedC w g c n k0 (.returned (.int .i64 ((k0 : Int) + n))) w' := by
    intro w' h1 h2
    refine ⟨rfl, ?_, h2⟩
    rw [← hn, markC_all, hn] at h1; exact h1
  have HF := Lib.hid hfin; have HN := Lib.hid hn
  rw [← markC_zero xs k0] at hr
  have HR0 := Lib.hid hr
  clear hfin hn hr
  go_enter Tryd.func33, Tryd.ntmps33
  go_wp2
  go_loopw [1, 5] (fun q i wr => ∃ k : Nat, k ≤ n ∧ i = .int .i64 k ∧ q = .int .i64 ((k0 : Int) + k) ∧ Row wr g 64 c (markC xs k0 k) ∧ Touch g w wr) (fun _ i _ => n - (intOf i).toNat)
  case atStart => exact ⟨0, Nat.zero_le _, rfl, by simp, HR0.out, .refl _ _⟩
  case round =>
    obtain ⟨k, hk, rfl, rfl, hrk, ht⟩ := hrel
    have HR := Lib.hid hrk; have HT := Lib.hid ht
    clear hrk ht
    by_cases hlt : k < n
    · have hkx : k < xs.length := by have := HN.out; omega
      have hold := HR.out.cell k (by rw [markC_len]; exact hkx)
      generalize (markC xs k0 k)[k]'(by rw [markC_len]; exact hkx) = vold at hold
      have hfree := HR.out.free k
      have hset := HR.out.set k (cV (ckP (k0 + k)))
      rw [markC_set xs k0 k hkx] at hset
      have hcv := conv_mark (k := k0 + k) (by omega)
      rw [Int.natCast_add] at hcv
      obtain ⟨cc, hcc⟩ : ∃ cc, ck (k0 + k) = cc := ⟨_, rfl⟩
      have hst : cV (ckP (k0 + k)) = .complex .f32 cc 1065353216 := by unfold cV ckP; rw [hcc]
      rw [hst] at hset
      rw [hcc] at hcv
      have HS := Lib.hid hset; clear hset hst hcc
      go_wp2
      go_roundw
      case rel => exact ⟨k + 1, by omega, by go_num, by go_num, HS.out, HT.out.set _ _⟩
      case measure => simp [intOf]; omega
    · obtain rfl : k = n := by omega
      go_wp2
      go_ret
      exact HF.out _ HR.out HT.out
end

theorem markC_nil (w : World) (a : Option Addr) (c : Nat) (k0 : Int) : Calls Tryd.prog 33 #[.slice a 0 c, .int .i64 k0] w fun e w' => e = .returned (.int .i64 k0) ∧ w = w' := by
  go_enter Tryd.func33, Tryd.ntmps33
  go_wp2
  refine wp_loop_rounds 1 ?_; rw [rounds_succ]
  go_wp2
  go_ret
  exact ⟨rfl, rfl⟩

theorem heldC_nil (w : World) (a : Option Addr) (c : Nat) (k0 : Int) : Calls Tryd.prog 34 #[.slice a 0 c, .int .i64 k0] w fun e w' => e = .returned (.int .i64 k0) ∧ w = w' := by
  go_enter Tryd.func34, Tryd.ntmps34
  go_wp2
  refine wp_loop_rounds 1 ?_; rw [rounds_succ]
  go_wp2
  go_ret
  exact ⟨rfl, rfl⟩

theorem eqC_nil (w : World) (a a' : Option Addr) (c c' : Nat) : Calls Tryd.prog 32 #[.slice a 0 c, .slice a' 0 c'] w fun e w' => e = .returned (.bool true) ∧ w = w' := by
  go_enter Tryd.func32, Tryd.ntmps32
  go_wp2
  refine wp_loop_rounds 1 ?_; rw [rounds_succ]
  go_wp2
  go_ret
  exact ⟨rfl, rfl⟩

set_option maxHeartbeats 1000000 in
theorem heldC_any (w : World) (g n c k0 : Nat) (hm : n ≤ 256) (b1 : k0 ≤ 10) (hr : Cd w g 0 (iotaC k0 n)) :
    Calls Tryd.prog 34 #[.slice (some ⟨g, 0, none⟩) n c, .int .i64 k0] w fun e w' => e = .returned (.int .i64 ((k0 : Int) + n)) ∧ w = w' := by
  have HR := Lib.hid hr; clear hr
  have hone := ck_one.2.2
  go_enter Tryd.func34, Tryd.ntmps34
  go_wp2
  go_loop [1, 5] (fun q i => ∃ k : Nat, k ≤ n ∧ i = .int .i64 k ∧ q = .int .i64 ((k0 : Int) + k)) (fun _ i => n - (intOf i).toNat)
  case atStart => exact ⟨0, Nat.zero_le _, rfl, by simp⟩
  case round =>
    obtain ⟨k, hk, rfl, rfl⟩ := hrel
    by_cases hlt : k < n
    · have hcell := HR.out k (by rw [iotaC_len]; exact hlt)
      have he : (iotaC k0 n)[k]'(by rw [iotaC_len]; exact hlt) = ckP (k0 + k) := by simp [iotaC]
      rw [he, Nat.zero_add] at hcell
      have hne := ck_self (k := k0 + k) (by omega)
      have hcv := conv_mark (k := k0 + k) (by omega)
      rw [Int.natCast_add] at hcv
      have hcell2 : w.cell? ⟨g, k, none⟩ = some (.complex .f32 (ck (k0 + k)) 1065353216) := hcell
      obtain ⟨cc, hcc⟩ : ∃ cc, ck (k0 + k) = cc := ⟨_, rfl⟩
      rw [hcc] at hcv hne hcell2
      clear he hcell hcc
      go_wp2
      go_round
      case rel => exact ⟨k + 1, by omega, by go_num, by go_num⟩
      case measure => simp [intOf]; omega
    · obtain rfl : k = n := by omega
      go_wp2
      go_ret
      exact ⟨rfl, rfl⟩

/-! ### The same -/
theorem dr_drop {w w' : World} (h : Dr w w') : Dr w w' := h
set_option maxHeartbeats 1000000 in
theorem sameComplex_like (a b a' b' : Nat) (w : World) (h1 : Like .f64 a a') (h2 : Like .f64 b b') : Calls Tryd.prog 56 #[.complex .f64 a b, .complex .f64 a' b'] w fun e w' => e = .returned (.bool true) ∧ Dr w w' := by
  have H1 := Lib.hid h1; have H2 := Lib.hid h2
  clear h1 h2
  go_enter Tryd.func56, Tryd.ntmps56
  go_wp2_with fail
  go_at_call 50
  refine (Fl.sameFloat_like a a' _ H1.out).mono ?_
  rintro e w1 ⟨rfl, hd⟩
  have D1 := Lib.hid hd; clear hd
  go_wp2_with fail
  go_at_call 50
  refine (Fl.sameFloat_like b b' _ H2.out).mono ?_
  rintro e w2 ⟨rfl, hd⟩
  have D2 := Lib.hid hd; clear hd
  go_wp2
  go_ret
  exact ⟨rfl, D1.out.trans D2.out⟩

section
attribute [local go_sem] run_cconv
set_option maxHeartbeats 4000000 in
theorem eqComplex64S_any (g o g' o' : Nat) (n c c' : Nat) (xs : List (Nat × Nat)) (w : World) (hn : xs.length = n) (hx : Cd w g o xs) (hy : Cd w g' o' xs) (hm : n ≤ 1048576) :
    Calls Tryd.prog 32 #[.slice (some ⟨g, o, none⟩) n c, .slice (some ⟨g', o', none⟩) n c'] w fun e w' => e = .returned (.bool true) ∧ Dr w w' := by
  have HN := Lib.hid hn
  have HX := Lib.hid hx; have HY := Lib.hid hy
  clear hn hx hy
  go_enter Tryd.func32, Tryd.ntmps32
  go_wp2
  go_loopw [5] (fun i wr => ∃ k : Nat, k ≤ n ∧ i = .int .i64 k ∧ Dr w wr) (fun i _ => n - (intOf i).toNat)
  case atStart => exact ⟨0, Nat.zero_le _, rfl, .refl _⟩
  case round =>
    obtain ⟨k, hk, rfl, hd⟩ := hrel
    by_cases hlt : k < n
    · have hkx : k < xs.length := by have := HN.out; omega
      have c1 := Cd.dr hd HX.out k hkx
      have c2 := Cd.dr hd HY.out k hkx
      have HD := Lib.hid hd
      generalize xs[k] = x at *
      obtain ⟨xa, xb⟩ := x
      clear hd
      go_wp2
      go_region_with (go_at_call 56; refine (sameComplex_like _ _ _ _ _ (Fl.like_conv2 (.refl _ _)) (Fl.like_conv2 (.refl _ _))).mono ?_; rintro e w' ⟨rfl, nq, rfl⟩)
      all_goals
        go_wp2
        go_roundw
        case rel => exact ⟨k + 1, by omega, by go_num, by first | exact HD.out.drewN _ | exact (HD.out.drewN _).drewN _ | exact ((HD.out.drewN _).drewN _).drewN _ | exact (((HD.out.drewN _).drewN _).drewN _).drewN _ | exact ((((HD.out.drewN _).drewN _).drewN _).drewN _).drewN _⟩
        case measure => simp [intOf]; omega
    · obtain rfl : k = n := by omega
      go_wp2
      go_ret
      exact ⟨rfl, hd⟩
end

end Go.Proofs.YtjlbjlcficbdlaaDoor
