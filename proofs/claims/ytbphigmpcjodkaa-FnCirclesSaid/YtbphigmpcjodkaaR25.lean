/-
  Walks: powers, products, nearness and turns of phasors of 64ths. Conditions: none.
-/
import Derived.Test.YtbphigmpcjodkaaR24a
import Derived.Test.YtbphigmpcjodkaaR24b
import Derived.Test.YtbphigmpcjodkaaR24c
import Derived.Test.YtbphigmpcjodkaaR20
set_option linter.unusedVariables false
set_option linter.unusedSimpArgs false
namespace Go.Proofs.Ytbphigmpcjodkaa
open Go Go.RowKit Flo Val Fb Ff

theorem ml_all {i j : Nat} (hi : i < 64) (hj : j < 64) : mlJ i j = true := by
  by_cases h0 : i = 0
  · subst h0; exact all_of ml0 hj
  by_cases h1 : i = 1
  · subst h1; exact all_of ml1 hj
  by_cases h2 : i = 2
  · subst h2; exact all_of ml2 hj
  by_cases h3 : i = 3
  · subst h3; exact all_of ml3 hj
  by_cases h4 : i = 4
  · subst h4; exact all_of ml4 hj
  by_cases h5 : i = 5
  · subst h5; exact all_of ml5 hj
  by_cases h6 : i = 6
  · subst h6; exact all_of ml6 hj
  by_cases h7 : i = 7
  · subst h7; exact all_of ml7 hj
  by_cases h8 : i = 8
  · subst h8; exact all_of ml8 hj
  by_cases h9 : i = 9
  · subst h9; exact all_of ml9 hj
  by_cases h10 : i = 10
  · subst h10; exact all_of ml10 hj
  by_cases h11 : i = 11
  · subst h11; exact all_of ml11 hj
  by_cases h12 : i = 12
  · subst h12; exact all_of ml12 hj
  by_cases h13 : i = 13
  · subst h13; exact all_of ml13 hj
  by_cases h14 : i = 14
  · subst h14; exact all_of ml14 hj
  by_cases h15 : i = 15
  · subst h15; exact all_of ml15 hj
  by_cases h16 : i = 16
  · subst h16; exact all_of ml16 hj
  by_cases h17 : i = 17
  · subst h17; exact all_of ml17 hj
  by_cases h18 : i = 18
  · subst h18; exact all_of ml18 hj
  by_cases h19 : i = 19
  · subst h19; exact all_of ml19 hj
  by_cases h20 : i = 20
  · subst h20; exact all_of ml20 hj
  by_cases h21 : i = 21
  · subst h21; exact all_of ml21 hj
  by_cases h22 : i = 22
  · subst h22; exact all_of ml22 hj
  by_cases h23 : i = 23
  · subst h23; exact all_of ml23 hj
  by_cases h24 : i = 24
  · subst h24; exact all_of ml24 hj
  by_cases h25 : i = 25
  · subst h25; exact all_of ml25 hj
  by_cases h26 : i = 26
  · subst h26; exact all_of ml26 hj
  by_cases h27 : i = 27
  · subst h27; exact all_of ml27 hj
  by_cases h28 : i = 28
  · subst h28; exact all_of ml28 hj
  by_cases h29 : i = 29
  · subst h29; exact all_of ml29 hj
  by_cases h30 : i = 30
  · subst h30; exact all_of ml30 hj
  by_cases h31 : i = 31
  · subst h31; exact all_of ml31 hj
  by_cases h32 : i = 32
  · subst h32; exact all_of ml32 hj
  by_cases h33 : i = 33
  · subst h33; exact all_of ml33 hj
  by_cases h34 : i = 34
  · subst h34; exact all_of ml34 hj
  by_cases h35 : i = 35
  · subst h35; exact all_of ml35 hj
  by_cases h36 : i = 36
  · subst h36; exact all_of ml36 hj
  by_cases h37 : i = 37
  · subst h37; exact all_of ml37 hj
  by_cases h38 : i = 38
  · subst h38; exact all_of ml38 hj
  by_cases h39 : i = 39
  · subst h39; exact all_of ml39 hj
  by_cases h40 : i = 40
  · subst h40; exact all_of ml40 hj
  by_cases h41 : i = 41
  · subst h41; exact all_of ml41 hj
  by_cases h42 : i = 42
  · subst h42; exact all_of ml42 hj
  by_cases h43 : i = 43
  · subst h43; exact all_of ml43 hj
  by_cases h44 : i = 44
  · subst h44; exact all_of ml44 hj
  by_cases h45 : i = 45
  · subst h45; exact all_of ml45 hj
  by_cases h46 : i = 46
  · subst h46; exact all_of ml46 hj
  by_cases h47 : i = 47
  · subst h47; exact all_of ml47 hj
  by_cases h48 : i = 48
  · subst h48; exact all_of ml48 hj
  by_cases h49 : i = 49
  · subst h49; exact all_of ml49 hj
  by_cases h50 : i = 50
  · subst h50; exact all_of ml50 hj
  by_cases h51 : i = 51
  · subst h51; exact all_of ml51 hj
  by_cases h52 : i = 52
  · subst h52; exact all_of ml52 hj
  by_cases h53 : i = 53
  · subst h53; exact all_of ml53 hj
  by_cases h54 : i = 54
  · subst h54; exact all_of ml54 hj
  by_cases h55 : i = 55
  · subst h55; exact all_of ml55 hj
  by_cases h56 : i = 56
  · subst h56; exact all_of ml56 hj
  by_cases h57 : i = 57
  · subst h57; exact all_of ml57 hj
  by_cases h58 : i = 58
  · subst h58; exact all_of ml58 hj
  by_cases h59 : i = 59
  · subst h59; exact all_of ml59 hj
  by_cases h60 : i = 60
  · subst h60; exact all_of ml60 hj
  by_cases h61 : i = 61
  · subst h61; exact all_of ml61 hj
  by_cases h62 : i = 62
  · subst h62; exact all_of ml62 hj
  by_cases h63 : i = 63
  · subst h63; exact all_of ml63 hj
  omega

/-! ### Words, powers, turns -/
def wdJ (j : Nat) : Bool := cvo .f32 .f64 (RT.getD j 0) == some (RW.getD j 0) && (cvo .f32 .f64 (IT.getD j 0) == some (IW.getD j 0) && cvo .f32 .f64 (AT.getD j 0) == some (AW.getD j 0))
structure Po (a b m1 m2 s p pv g : Nat) : Prop where
  f_m1 : floatBits .mul .f64 a a = some m1
  f_m2 : floatBits .mul .f64 b b = some m2
  f_s : floatBits .add .f64 m1 m2 = some s
  f_p : cvo .f64 .f32 s = some p
  f_w : cvo .f32 .f64 p = some pv
  f_g : gapo pv 4607182418800017408 = some g
  f_l : (FloatKind.f64.format.order g T4 == some .gt) = false
def poB (a b : Nat) : Bool := bo (mulW a a) false fun m1 => bo (mulW b b) false fun m2 => bo (addW m1 m2) false fun s => bo (cvo .f64 .f32 s) false fun p => bo (cvo .f32 .f64 p) false fun pv =>
  bo (gapo pv 4607182418800017408) false fun g => (FloatKind.f64.format.order g T4 == some .gt) == false
theorem po_of {a b : Nat} (h : poB a b = true) : ∃ m1 m2 s p pv g, Po a b m1 m2 s p pv g := by
  unfold poB at h
  obtain ⟨m1, h1, h⟩ := bo_true h
  obtain ⟨m2, h2, h⟩ := bo_true h
  obtain ⟨s, h3, h⟩ := bo_true h
  obtain ⟨p, h4, h⟩ := bo_true h
  obtain ⟨pv, h5, h⟩ := bo_true h
  obtain ⟨g, h6, h⟩ := bo_true h
  rw [mulW_eq] at h1 h2; rw [addW_eq] at h3
  exact ⟨m1, m2, s, p, pv, g, ⟨h1, h2, h3, h4, h5, h6, by simpa using h⟩⟩
structure Tr (v : Nat) (c : Int) (an tu t5 : Nat) (wh : Int) (g : Nat) : Prop where
  f_a : floatBits .mul .f64 v 4634204016564240384 = some an
  f_t : floatBits .sub .f64 an (floatOfInt .f64 c) = some tu
  f_5 : floatBits .add .f64 tu 4666723447345250304 = some t5
  f_w : floatToIntVal .f64 t5 .i64 = some wh
  f_0 : 0 ≤ wh
  f_1 : wh ≤ 20000
  f_r : (wh - 10000).tmod 64 = 0
  f_g : gapo tu (floatOfInt .f64 (wh - 10000)) = some g
  f_l : (FloatKind.f64.format.order g 4562254508917369340 == some .gt) = false
def trI (tu : Nat) : Option Int → Bool
  | none => false
  | some wh => decide (0 ≤ wh) && (decide (wh ≤ 20000) && (decide ((wh - 10000).tmod 64 = 0) && bo (gapo tu (floatOfInt .f64 (wh - 10000))) false fun g => (FloatKind.f64.format.order g 4562254508917369340 == some .gt) == false))
def trB (v : Nat) (c : Int) : Bool := bo (floatBits .mul .f64 v 4634204016564240384) false fun an => bo (floatBits .sub .f64 an (floatOfInt .f64 c)) false fun tu => bo (floatBits .add .f64 tu 4666723447345250304) false fun t5 => trI tu (floatToIntVal .f64 t5 .i64)
theorem tr_of {v : Nat} {c : Int} (h : trB v c = true) : ∃ an tu t5 wh g, Tr v c an tu t5 wh g := by
  unfold trB at h
  obtain ⟨an, h1, h⟩ := bo_true h
  obtain ⟨tu, h2, h⟩ := bo_true h
  obtain ⟨t5, h3, h⟩ := bo_true h
  cases hw : floatToIntVal .f64 t5 .i64 with
  | none => rw [hw] at h; cases h
  | some wh =>
    rw [hw] at h
    unfold trI at h
    simp only [Bool.and_eq_true, decide_eq_true_eq] at h
    obtain ⟨a1, a2, a3, h⟩ := h
    obtain ⟨g, h4, h⟩ := bo_true h
    exact ⟨an, tu, t5, wh, g, ⟨h1, h2, h3, hw, a1, a2, a3, h4, by simpa using h⟩⟩
set_option maxRecDepth 100000
theorem wdJ_all : ((List.range 64).all wdJ) = true := by kernel_rfl
theorem poJ_all : ((List.range 64).all fun j => poB (RW.getD j 0) (IW.getD j 0)) = true := by kernel_rfl
theorem tr_lo : ((List.range 128).all fun i => trB (AW.getD (jc ((i : Int) - 128)) 0) ((i : Int) - 128)) = true := by kernel_rfl
theorem tr_hi : ((List.range 128).all fun i => trB (AW.getD (jc (i : Int)) 0) (i : Int)) = true := by kernel_rfl
theorem tr_all {c : Int} (h1 : -128 ≤ c) (h2 : c < 128) : trB (AW.getD (jc c) 0) c = true := by
  by_cases h : c < 0
  · have := all_of tr_lo (i := (c + 128).toNat) (by omega)
    rwa [show (((c + 128).toNat : Nat) : Int) - 128 = c by omega] at this
  · have := all_of tr_hi (i := c.toNat) (by omega)
    rwa [show ((c.toNat : Nat) : Int) = c by omega] at this
theorem quarter_one : ∀ j, j = 0 ∨ j = 32 → gapo (RW.getD j 0) 0 = some 4607182418800017408 := by
  intro j h; rcases h with rfl | rfl <;> decide +kernel
theorem quarter_zero : ∀ j, j = 16 ∨ j = 48 → gapo (RW.getD j 0) 0 = some 0 := by
  intro j h; rcases h with rfl | rfl <;> decide +kernel

/-! ### The functions -/
attribute [local go_sem] run_fadd run_fsub run_fmul run_fquo run_fconv World.drewN_zero

theorem parts_any {x y X Y : Nat} (hx : cvo .f32 .f64 x = some X) (hy : cvo .f32 .f64 y = some Y) (w : World) :
    Calls Try.prog 66 #[.complex .f32 x y] w fun e w' => e = .returned (.tuple #[.float .f64 X, .float .f64 Y]) ∧ w = w' := by
  obtain ⟨x1, x2⟩ := cvo_ok hx
  obtain ⟨y1, y2⟩ := cvo_ok hy
  clear hx hy
  go_enter Try.func66, Try.ntmps66
  go_wp2
  go_ret2
  exact ⟨rfl, rfl⟩

set_option maxHeartbeats 1000000 in
theorem power_any {x y X Y m1 m2 s p pv g : Nat} (hx : cvo .f32 .f64 x = some X) (hy : cvo .f32 .f64 y = some Y) (h : Po X Y m1 m2 s p pv g) (w : World) :
    Calls Try.prog 40 #[.complex .f32 x y] w fun e w' => e = .returned (.float .f32 p) ∧ w = w' := by
  have inner : ∀ w, Calls Try.prog 65 #[.complex .f32 x y] w fun e w' => e = .returned (.float .f64 s) ∧ w = w' := by
    intro w
    have HP := Lib.hid (fun w => parts_any hx hy w)
    obtain ⟨a1, a2⟩ := opf h.f_m1
    obtain ⟨b1, b2⟩ := opf h.f_m2
    obtain ⟨c1, c2⟩ := opf h.f_s
    clear h hx hy
    go_enter Try.func65, Try.ntmps65
    go_wp2_with (go_at_call 66; refine (HP.out _).mono ?_; rintro e w' ⟨rfl, rfl⟩)
    go_ret
    exact ⟨rfl, rfl⟩
  have HI := Lib.hid inner
  obtain ⟨p1, p2⟩ := cvo_ok h.f_p
  clear inner h hx hy
  go_enter Try.func40, Try.ntmps40
  go_wp2_with (go_at_call 65; refine (HI.out _).mono ?_; rintro e w' ⟨rfl, rfl⟩)
  go_ret
  exact ⟨rfl, rfl⟩

set_option maxHeartbeats 2000000 in
theorem mulc_any {x y z t a b c d r s m1 m2 u m3 m4 v un vn uw vw ga gb : Nat} (hx : cvo .f32 .f64 x = some a) (hy : cvo .f32 .f64 y = some b) (hz : cvo .f32 .f64 z = some c) (ht : cvo .f32 .f64 t = some d)
    (h : Ml a b c d r s m1 m2 u m3 m4 v un vn uw vw ga gb) (w : World) :
    Calls Try.prog 42 #[.complex .f32 x y, .complex .f32 z t] w fun e w' => e = .returned (.complex .f32 un vn) ∧ w = w' := by
  have inner : ∀ w, Calls Try.prog 67 #[.float .f64 a, .float .f64 b, .float .f64 c, .float .f64 d] w fun e w' => e = .returned (.tuple #[.float .f64 u, .float .f64 v]) ∧ w = w' := by
    intro w
    obtain ⟨a1, a2⟩ := opf h.f_m1
    obtain ⟨b1, b2⟩ := opf h.f_m2
    obtain ⟨c1, c2⟩ := opf h.f_u
    obtain ⟨d1, d2⟩ := opf h.f_m3
    obtain ⟨e1, e2⟩ := opf h.f_m4
    obtain ⟨g1, g2⟩ := opf h.f_v
    clear h hx hy hz ht
    go_enter Try.func67, Try.ntmps67
    go_wp2
    go_ret2
    exact ⟨rfl, rfl⟩
  have HI := Lib.hid inner
  have HP := Lib.hid (fun w => parts_any hx hy w); have HQ := Lib.hid (fun w => parts_any hz ht w)
  obtain ⟨p1, p2⟩ := cvo_ok h.f_un
  obtain ⟨q1, q2⟩ := cvo_ok h.f_vn
  clear inner h hx hy hz ht
  go_enter Try.func42, Try.ntmps42
  go_wp2_with fail
  go_at_call 66
  refine (HP.out _).mono ?_
  rintro e w' ⟨rfl, rfl⟩
  go_wp2_with fail
  go_at_call 66
  refine (HQ.out _).mono ?_
  rintro e w' ⟨rfl, rfl⟩
  go_wp2_with fail
  go_at_call 67
  refine (HI.out _).mono ?_
  rintro e w' ⟨rfl, rfl⟩
  go_wp2
  go_ret
  exact ⟨rfl, rfl⟩

set_option maxHeartbeats 2000000 in
theorem near_any {x y a b c d r s m1 m2 u m3 m4 v un vn uw vw ga gb : Nat} (hx : cvo .f32 .f64 x = some r) (hy : cvo .f32 .f64 y = some s)
    (h : Ml a b c d r s m1 m2 u m3 m4 v un vn uw vw ga gb) (w : World) :
    Calls Try.prog 41 #[.complex .f32 un vn, .complex .f32 x y, .float .f64 4547007122018943789] w fun e w' => e = .returned (.bool true) ∧ w = w' := by
  obtain ⟨x1, x2⟩ := cvo_ok hx
  obtain ⟨y1, y2⟩ := cvo_ok hy
  obtain ⟨u1, u2⟩ := cvo_ok h.f_uw
  obtain ⟨v1, v2⟩ := cvo_ok h.f_vw
  have la : (FloatKind.f64.format.order ga 4547007122018943789 == some .lt || FloatKind.f64.format.order ga 4547007122018943789 == some .eq) = true := h.f_la
  have lb : (FloatKind.f64.format.order gb 4547007122018943789 == some .lt || FloatKind.f64.format.order gb 4547007122018943789 == some .eq) = true := h.f_lb
  have HA := Lib.hid (fun w => b10Gap_any uw r ga h.f_ga w); have HB := Lib.hid (fun w => b10Gap_any vw s gb h.f_gb w)
  clear h hx hy
  go_enter Try.func41, Try.ntmps41
  go_wp2_with fail
  go_at_call 38
  refine (HA.out _).mono ?_
  rintro e w' ⟨rfl, rfl⟩
  go_wp2_with fail
  go_at_call 38
  refine (HB.out _).mono ?_
  rintro e w' ⟨rfl, rfl⟩
  go_wp2
  go_ret
  exact ⟨rfl, rfl⟩

theorem run_f32bits' (x : Nat) (w : World) : (callFunc 85 #[.float .f32 x]).run Try.prog w = .ok (.value (.int .u32 x)) w := by kernel_rfl
section
attribute [local go_sem] run_f32bits'
theorem bits_a (w : World) : Calls Try.prog 80 #[.float .f32 1048576000] w fun e w' => e = .returned (.int .i64 1048576000) ∧ w = w' := by
  have h : (FloatKind.f32.format.order 1048576000 1048576000 != some .eq) = false := by decide +kernel
  go_enter Try.func80, Try.ntmps80
  go_wp2
  go_ret
  exact ⟨rfl, rfl⟩
theorem bits_b (w : World) : Calls Try.prog 80 #[.float .f32 0] w fun e w' => e = .returned (.int .i64 0) ∧ w = w' := by
  have h : (FloatKind.f32.format.order 0 0 != some .eq) = false := by decide +kernel
  go_enter Try.func80, Try.ntmps80
  go_wp2
  go_ret
  exact ⟨rfl, rfl⟩
end
theorem same_any (w : World) : Calls Try.prog 43 #[.float .f32 1048576000, .float .f32 0] w fun e w' => e = .returned (.bool false) ∧ w = w' := by
  have inner : ∀ w, Calls Try.prog 68 #[.float .f32 1048576000, .float .f32 0] w fun e w' => e = .returned (.bool false) ∧ w = w' := by
    intro w
    go_enter Try.func68, Try.ntmps68
    go_wp2_with fail
    go_at_call 80
    refine (bits_a _).mono ?_
    rintro e w' ⟨rfl, rfl⟩
    go_wp2_with fail
    go_at_call 80
    refine (bits_b _).mono ?_
    rintro e w' ⟨rfl, rfl⟩
    go_wp2
    go_ret
    exact ⟨rfl, rfl⟩
  have HI := Lib.hid inner
  clear inner
  go_enter Try.func43, Try.ntmps43
  go_wp2_with (go_at_call 68; refine (HI.out _).mono ?_; rintro e w' ⟨rfl, rfl⟩)
  go_ret
  exact ⟨rfl, rfl⟩

end Go.Proofs.Ytbphigmpcjodkaa
