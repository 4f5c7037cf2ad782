/-
  Walks: when jobs end. Conditions: none.
-/
import Derived.Test.YtncmhinpjkkfkaaK7
set_option linter.unusedVariables false
set_option linter.unusedSimpArgs false
namespace Go.Proofs.Ytncmhinpjkkfkaa
open Go Go.RowKit

theorem Row.drewN' {w : World} {a : Addr} {u : Value} {g c : Nat} {T : TypeId} {vs : List Value} (h : Row (w.setCell a u) g T c vs) (n : Nat) : Row ((w.drewN n).setCell a u) g T c vs := h

set_option maxHeartbeats 4000000 in
set_option maxRecDepth 100000 in
theorem l02Ends_any (w : World) (g n c : Nat) (js : List J) (hn : js.length = n) (hj : JRd w g 0 js) (hg : g < w.heap.size) (g' n' c' : Nat) (xs : List Int) (hn' : xs.length = n') (hx : Rd w g' 0 xs) (hg' : g' < w.heap.size) (hcan : canB js xs = true) :
    Calls Try.prog 107 #[.slice (some ⟨g, 0, none⟩) n c, .slice (some ⟨g', 0, none⟩) n' c'] w (Made w (endsL js xs)) := by
  obtain ⟨hjb, hl, hxr⟩ := canB_of hcan
  obtain ⟨n1, n2, hjs⟩ := jobsB_of hjb
  have hnn : n' = n := by omega
  subst hnn
  have hbd := endsK_bd hcan
  have hlen := endsK_len js xs
  have hfin : ∀ w' G, Row w' G 2 n' ((endsK js xs n').2.map (Value.int .i64)) → w.heap.size ≤ G → Below w.heap.size w w' → Made w (endsL js xs) (.returned (.slice (some ⟨G, 0, none⟩) n' n')) w' := by
    intro w' G h1 h2 h3
    have e : (endsL js xs).length = n' := by unfold endsL; rw [hlen _ (Nat.le_refl _)]; exact hn
    refine ⟨G, by rw [e], ?_, h2, h3⟩
    rw [e]; unfold endsL; rw [hn']; exact h1
  have hz : (endsK js xs 0).2.map (Value.int .i64) = List.replicate n' (.int .i64 0) := by simp [endsK, hn]
  have HF := Lib.hid hfin; have HN := Lib.hid hn; have HN' := Lib.hid hn'; have HJ := Lib.hid hj; have HX := Lib.hid hx; have HB := Lib.hid hbd; have HLn := Lib.hid hlen; have HXR := Lib.hid hxr; have HJS := Lib.hid hjs; have HZ := Lib.hid hz
  have m1 : n' ≤ 24 := by omega
  clear hfin hn hn' hj hx hbd hlen hxr hjs hz hl hjb n1 n2 hcan
  go_enter Try.func107, Try.ntmps107
  go_wp2_with (at_make; refine wp_make rfl (.tmp 10) 22 rfl 2 (.int .i64 0) 8 Try.underlying22 Try.info2 rfl n' .i64 _ rfl rfl (by omega) (by unfold maxLen; omega) ?_; intro w1 hrow hbel)
  rw [← HZ.out] at hrow
  have R0 := Lib.hid hrow; have B0 := Lib.hid hbel; clear hrow hbel
  go_loopw [6, 7, 8] (fun now i _ wr => ∃ k : Nat, k ≤ n' ∧ i = .int .i64 k ∧ now = .int .i64 (endsK js xs k).1 ∧ Row wr w.heap.size 2 n' ((endsK js xs k).2.map (Value.int .i64)) ∧ Below w.heap.size w wr) (fun _ i _ _ => n' - (intOf i).toNat)
  case atStart => exact ⟨0, Nat.zero_le _, rfl, rfl, R0.out, B0.out⟩
  case round =>
    obtain ⟨k, hk, rfl, rfl, hrk, hbk⟩ := hrel
    have HR := Lib.hid hrk; have HBk := Lib.hid hbk
    clear hrk hbk
    by_cases hlt : k < n'
    · have hkx : k < xs.length := by have := HN'.out; omega
      have cx := (HX.out.below HBk.out hg') k hkx
      rw [Nat.zero_add] at cx
      obtain ⟨x0, x1⟩ := HXR.out k hkx
      have x2 : xs[k] < (n' : Int) := by have := HN.out; omega
      obtain ⟨nb0, nb1, _⟩ := HB.out k (by omega)
      have hji : xs[k].toNat < js.length := by have := HN.out; omega
      obtain ⟨c0, c1, _, _⟩ := (HJ.out.below HBk.out hg) xs[k].toNat hji
      rw [Nat.zero_add] at c0 c1
      obtain ⟨t0, t1, r0, r1, _⟩ := HJS.out xs[k].toNat hji
      have hsucc := endsK_succ js xs k hkx
      unfold stepE at hsucc
      rw [jAt_eq x0 (by have := HN.out; omega)] at hsucc
      have HSU := Lib.hid hsucc; clear hsucc
      generalize hjj : js[xs[k].toNat] = jj at *
      clear hjj
      have hwrap : IntKind.i64.wrap (max (endsK js xs k).1 jj.rel + jj.time) = max (endsK js xs k).1 jj.rel + jj.time := IntWalk.i64_in _ (by omega)
      have hlenk := HLn.out k (by omega)
      have hold := HR.out.cell xs[k].toNat (by rw [List.length_map, hlenk]; omega)
      generalize ((endsK js xs k).2.map (Value.int .i64))[xs[k].toNat]'(by rw [List.length_map, hlenk]; omega) = vold at hold
      have hfree := HR.out.free xs[k].toNat
      have hset := HR.out.set xs[k].toNat (.int .i64 (max (endsK js xs k).1 jj.rel + jj.time))
      have hmap : ((endsK js xs k).2.map (Value.int .i64)).set xs[k].toNat (.int .i64 (max (endsK js xs k).1 jj.rel + jj.time)) = ((endsK js xs (k + 1)).2.map (Value.int .i64)) := by
        rw [HSU.out, List.map_set]
      rw [hmap] at hset
      have HS := Lib.hid hset
      have hne : (endsK js xs (k + 1)).1 = max (endsK js xs k).1 jj.rel + jj.time := by rw [HSU.out]
      have HNE := Lib.hid hne
      clear hset hmap hlenk hne
      go_wp2
      go_quiet ((go_at_call 97; exact quiet_eq (l00Max_any _ _ _)))
      go_wp2
      go_roundw
      case rel => exact ⟨k + 1, by omega, by go_num, by rw [HNE.out], HS.out.drewN' _, (below_drewN HBk.out _).setCell (Nat.le_refl _) _⟩
      case measure => simp [intOf]; omega
    · obtain rfl : k = n' := by omega
      go_wp2
      go_ret
      exact HF.out _ _ HR.out (Nat.le_refl _) HBk.out

set_option maxHeartbeats 4000000 in
set_option maxRecDepth 100000 in
theorem implEnds_any (w : World) (g n c : Nat) (js : List J) (hn : js.length = n) (hj : JRd w g 0 js) (hg : g < w.heap.size) (g' n' c' : Nat) (xs : List Int) (hn' : xs.length = n') (hx : Rd w g' 0 xs) (hg' : g' < w.heap.size) (hcan : canB js xs = true) :
    Calls Try.prog 109 #[.slice (some ⟨g, 0, none⟩) n c, .slice (some ⟨g', 0, none⟩) n' c'] w (Made w (endsL js xs)) := by
  obtain ⟨hjb, hl, hxr⟩ := canB_of hcan
  obtain ⟨n1, n2, hjs⟩ := jobsB_of hjb
  have hnn : n' = n := by omega
  subst hnn
  have hbd := endsK_bd hcan
  have hlen := endsK_len js xs
  have hfin : ∀ w' G, Row w' G 2 n' ((endsK js xs n').2.map (Value.int .i64)) → w.heap.size ≤ G → Below w.heap.size w w' → Made w (endsL js xs) (.returned (.slice (some ⟨G, 0, none⟩) n' n')) w' := by
    intro w' G h1 h2 h3
    have e : (endsL js xs).length = n' := by unfold endsL; rw [hlen _ (Nat.le_refl _)]; exact hn
    refine ⟨G, by rw [e], ?_, h2, h3⟩
    rw [e]; unfold endsL; rw [hn']; exact h1
  have hz : (endsK js xs 0).2.map (Value.int .i64) = List.replicate n' (.int .i64 0) := by simp [endsK, hn]
  have HF := Lib.hid hfin; have HN := Lib.hid hn; have HN' := Lib.hid hn'; have HJ := Lib.hid hj; have HX := Lib.hid hx; have HB := Lib.hid hbd; have HLn := Lib.hid hlen; have HXR := Lib.hid hxr; have HJS := Lib.hid hjs; have HZ := Lib.hid hz
  have m1 : n' ≤ 24 := by omega
  clear hfin hn hn' hj hx hbd hlen hxr hjs hz hl hjb n1 n2 hcan
  go_enter Try.func109, Try.ntmps109
  go_wp2_with (at_make; refine wp_make rfl (.tmp 10) 22 rfl 2 (.int .i64 0) 8 Try.underlying22 Try.info2 rfl n' .i64 _ rfl rfl (by omega) (by unfold maxLen; omega) ?_; intro w1 hrow hbel)
  rw [← HZ.out] at hrow
  have R0 := Lib.hid hrow; have B0 := Lib.hid hbel; clear hrow hbel
  go_loopw [6, 8, 14] (fun now _ i wr => ∃ k : Nat, k ≤ n' ∧ i = .int .i64 k ∧ now = .int .i64 (endsK js xs k).1 ∧ Row wr w.heap.size 2 n' ((endsK js xs k).2.map (Value.int .i64)) ∧ Below w.heap.size w wr) (fun _ _ i _ => n' - (intOf i).toNat)
  case atStart => exact ⟨0, Nat.zero_le _, rfl, rfl, R0.out, B0.out⟩
  case round =>
    obtain ⟨k, hk, rfl, rfl, hrk, hbk⟩ := hrel
    have HR := Lib.hid hrk; have HBk := Lib.hid hbk
    clear hrk hbk
    by_cases hlt : k < n'
    · have hkx : k < xs.length := by have := HN'.out; omega
      have cx := (HX.out.below HBk.out hg') k hkx
      rw [Nat.zero_add] at cx
      obtain ⟨x0, x1⟩ := HXR.out k hkx
      have x2 : xs[k] < (n' : Int) := by have := HN.out; omega
      obtain ⟨nb0, nb1, _⟩ := HB.out k (by omega)
      have hji : xs[k].toNat < js.length := by have := HN.out; omega
      obtain ⟨c0, c1, _, _⟩ := (HJ.out.below HBk.out hg) xs[k].toNat hji
      rw [Nat.zero_add] at c0 c1
      obtain ⟨t0, t1, r0, r1, _⟩ := HJS.out xs[k].toNat hji
      have hsucc := endsK_succ js xs k hkx
      unfold stepE at hsucc
      rw [jAt_eq x0 (by have := HN.out; omega)] at hsucc
      have HSU := Lib.hid hsucc; clear hsucc
      generalize hjj : js[xs[k].toNat] = jj at *
      clear hjj
      have hwrap : IntKind.i64.wrap (max (endsK js xs k).1 jj.rel + jj.time) = max (endsK js xs k).1 jj.rel + jj.time := IntWalk.i64_in _ (by omega)
      have hlenk := HLn.out k (by omega)
      have hold := HR.out.cell xs[k].toNat (by rw [List.length_map, hlenk]; omega)
      generalize ((endsK js xs k).2.map (Value.int .i64))[xs[k].toNat]'(by rw [List.length_map, hlenk]; omega) = vold at hold
      have hfree := HR.out.free xs[k].toNat
      have hset := HR.out.set xs[k].toNat (.int .i64 (max (endsK js xs k).1 jj.rel + jj.time))
      have hmap : ((endsK js xs k).2.map (Value.int .i64)).set xs[k].toNat (.int .i64 (max (endsK js xs k).1 jj.rel + jj.time)) = ((endsK js xs (k + 1)).2.map (Value.int .i64)) := by
        rw [HSU.out, List.map_set]
      rw [hmap] at hset
      have HS := Lib.hid hset
      have hne : (endsK js xs (k + 1)).1 = max (endsK js xs k).1 jj.rel + jj.time := by rw [HSU.out]
      have HNE := Lib.hid hne
      clear hset hmap hlenk hne
      by_cases hmx : (endsK js xs k).1 < jj.rel
      · have hm : max (endsK js xs k).1 jj.rel = jj.rel := by omega
        have HM := Lib.hid hm
        rw [hm] at hwrap
        clear hm
        go_wp2
        go_quiet (fail)
        go_wp2
        go_roundw
        case rel => exact ⟨k + 1, by omega, by go_num, by rw [HNE.out, HM.out], by rw [← HM.out]; exact HS.out.drewN' _, (below_drewN HBk.out _).setCell (Nat.le_refl _) _⟩
        case measure => simp [intOf]; omega
      · have hm : max (endsK js xs k).1 jj.rel = (endsK js xs k).1 := by omega
        have HM := Lib.hid hm
        rw [hm] at hwrap
        clear hm
        go_wp2
        go_quiet (fail)
        go_wp2
        go_roundw
        case rel => exact ⟨k + 1, by omega, by go_num, by rw [HNE.out, HM.out], by rw [← HM.out]; exact HS.out.drewN' _, (below_drewN HBk.out _).setCell (Nat.le_refl _) _⟩
        case measure => simp [intOf]; omega
    · obtain rfl : k = n' := by omega
      go_wp2
      go_ret
      exact HF.out _ _ HR.out (Nat.le_refl _) HBk.out

end Go.Proofs.Ytncmhinpjkkfkaa
