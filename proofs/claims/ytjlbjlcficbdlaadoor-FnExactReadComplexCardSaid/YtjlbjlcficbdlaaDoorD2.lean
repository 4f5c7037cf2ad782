/-
  Walks: the decimal text of a number: the reference's and the program's. Conditions: none (the program's: its table of powers of ten lies as its initialiser lays it).
-/
import Derived.Test.YtjlbjlcficbdlaaDoorRows
import Derived.Test.YtjlbjlcficbdlaaDoorMem
import Derived.Test.YtjlbjlcficbdlaaDoorDec
import Derived.Test.YtjlbjlcficbdlaaDoorShelf
import Derived.WalkKit
import Derived.WalkLawsBesides
import Derived.WalkSpells
import Derived.Lib.Hide
import Derived.LoopTactic
import Derived.Outline
import Derived.Deep.Draws
import Derived.Deep.QuietTactic
import Derived.BigQuiet
import Derived.IntWalk
import Derived.Maps.AppendAt
import Derived.Laws.IdiomStrings
set_option linter.unusedVariables false
set_option linter.unusedSimpArgs false
namespace Go.Proofs.YtjlbjlcficbdlaaDoor
open Go Go.RowKit

def byV (l : List UInt8) : List Value := l.map fun b => .int .u8 (b.toNat : Int)
theorem byV_len (l : List UInt8) : (byV l).length = l.length := by simp [byV]
def slen : Value → Nat
  | .slice _ n _ => n
  | _ => 0

theorem add_zero (g j : Nat) : (⟨g, 0, none⟩ : Addr).add j = ⟨g, j, none⟩ := by unfold Addr.add; split <;> simp_all
theorem row_fresh (w : World) (t : TypeId) : Row (w.alloc (.cells #[] t)) w.heap.size t 0 [] := ⟨#[], heap_alloc_new w _, rfl, by simp, by simp [maxLen], rfl⟩
theorem row_one (w : World) (v : Value) (t : TypeId) : Row (w.alloc (.cells #[v] t)) w.heap.size t 1 [v] := ⟨#[v], heap_alloc_new w _, rfl, by simp, by simp [maxLen], rfl⟩
theorem tmod_neg (q : Int) (h : q < 0) : q.tmod 10 = -((q.natAbs % 10 : Nat) : Int) := by
  obtain ⟨k, rfl⟩ : ∃ k : Nat, q = -(k : Int) := ⟨q.natAbs, by omega⟩
  rw [Int.neg_tmod, Int.natAbs_neg, Int.natAbs_natCast]; rfl
theorem tmod_pos (q : Int) (h : ¬ q < 0) : q.tmod 10 = ((q.natAbs % 10 : Nat) : Int) := by
  obtain ⟨k, rfl⟩ : ∃ k : Nat, q = (k : Int) := ⟨q.natAbs, by omega⟩
  rw [Int.natAbs_natCast]; rfl

set_option maxRecDepth 100000 in
theorem append_at {t e : TypeId} {z : Value} {by' : Nat} (h1 : Tryd.prog.underlying t = some (.slice e)) (h2 : (Tryd.prog.info? e).map (fun i => (i.zero, i.size, i.bytes)) = some (some z, 1, by'))
    {ops : Array Oper} {rest : List Oper} {o : Oper} {a : Act} {Q : Exit → Act → World → Prop} (w : World) (hgd : o.guard = none) (s x : Operand)
    (ho : o.op = .call { callee := .builtin .append, args := #[s, x], argTypes := #[t, t] })
    (g cap : Nat) (xs : List Value) (n : Nat) (hs : a.eval s = .slice (some ⟨g, 0, none⟩) n cap) (hn : xs.length = n) (hrow : Row w g e cap xs)
    (ad : Addr) (m c : Nat) (news : List Value) (hx : a.eval x = .slice (some ad) m c) (hl : news.length = m) (hnews : ∀ j u, news[j]? = some u → w.cell? (ad.add j) = some u) (ho1 : ∀ u ∈ news, u.oneCell' = true)
    (hsm : n + m ≤ 2000000) (hby : by' ≤ 64) (hzc : z.cells.size = 1)
    (h : ∀ G cap' w', Row w' G e cap' (xs ++ news) → w.grownBy w' (some g) → (G = g ∨ G = w.heap.size) → wpList Tryd.prog ops Q rest (a.put o.dst (.slice (some ⟨G, 0, none⟩) (n + m) cap')) w') :
    wpList Tryd.prog ops Q (o :: rest) a w := by
  obtain ⟨i2, hi2, hz0, hz1, hz2⟩ := info_parts h2
  have hb : (n + m) * by' ≤ 140737488355328 := Nat.le_trans (Nat.mul_le_mul hsm hby) (by decide)
  refine wpList_append_own_at w hgd s x t ho 0 e i2 z 1 by' h1 hi2 hz0 hz1 hz2 hzc (by decide) (.slice (some ⟨g, 0, none⟩) n cap) n xs hs (hrow.owns hn (Nat.zero_le _)) ad m c news hx (by omega) hnews ho1 (by unfold maxLen; omega) hb (Nat.zero_le _) fun v' w' h2 h3 h4 h5 => ?_
  obtain ⟨k1, k2⟩ := h2
  have hne : v' ≠ .slice none 0 0 := fun e => by have := (h4.1 e).1; cases this
  rcases k2 with ⟨h0, _⟩ | ⟨g', cap', cur, rfl, hb, hh, hn', hm, hs', ht⟩
  · exact absurd h0 hne
  · rw [Nat.mul_one] at k1 hs' ht
    refine h g' cap' w' ⟨cur, hh, hs', by omega, hm, by rw [k1]; exact ht⟩ h3 ?_
    rcases h5 with h5 | h5
    · exact .inl (by simpa [Value.ownBlock] using h5)
    · exact .inr (by simpa [Value.ownBlock] using h5)

theorem byV_one (l : List UInt8) : ∀ u ∈ byV l, u.oneCell' = true := by
  intro u hu
  obtain ⟨b, _, rfl⟩ := List.mem_map.1 hu
  rfl
theorem row_news {w : World} {g c : Nat} {T : TypeId} {vs : List Value} (h : Row w g T c vs) : ∀ j u, vs[j]? = some u → w.cell? ((⟨g, 0, none⟩ : Addr).add j) = some u := by
  intro j u hj
  obtain ⟨hl, rfl⟩ := List.getElem?_eq_some_iff.1 hj
  rw [add_zero]; exact h.cell j hl
theorem byte_info : (Tryd.prog.info? 5).map (fun i => (i.zero, i.size, i.bytes)) = some (some (.int .u8 0), 1, 1) := by kernel_rfl

/-- append([]byte{b}, out...) -/
theorem ahead_byte {ops : Array Oper} {rest : List Oper} {o : Oper} {a : Act} {Q : Exit → Act → World → Prop} (w : World) (hgd : o.guard = none) (s x : Operand)
    (ho : o.op = .call { callee := .builtin .append, args := #[s, x], argTypes := #[68, 68] })
    (b : UInt8) (z : Int) (hz : z = (b.toNat : Int)) (hs : a.eval s = .slice (some ⟨w.heap.size, 0, none⟩) 1 1)
    (G cap : Nat) (l : List UInt8) (n : Nat) (hn : l.length = n) (hx : a.eval x = .slice (some ⟨G, 0, none⟩) n cap) (hrow : Row w G 5 cap (byV l)) (hsm : n + 1 ≤ 1000)
    (B : Nat) (w0 : World) (hB : Below B w0 w) (hsz : B ≤ w.heap.size)
    (h : ∀ G' cap' w', Row w' G' 5 cap' (byV (b :: l)) → Below B w0 w' → B ≤ G' → wpList Tryd.prog ops Q rest (a.put o.dst (.slice (some ⟨G', 0, none⟩) (1 + n) cap')) w') :
    wpList Tryd.prog ops Q (o :: rest) a (w.alloc (.cells #[.int .u8 z] 5)) := by
  subst hz
  have hr := hrow.alloc (.cells #[.int .u8 (b.toNat : Int)] 5)
  refine append_at (by exact Tryd.underlying68) byte_info _ hgd s x ho w.heap.size 1 [.int .u8 (b.toNat : Int)] 1 hs rfl (row_one w _ 5) ⟨G, 0, none⟩ n cap (byV l) hx (by rw [byV_len, hn]) (row_news hr) (byV_one l) (by omega) (by decide) rfl fun G' cap' w' k1 k2 k3 => h G' cap' w' k1 ?_ ?_
  · exact (hB.alloc hsz _).grown k2 (by simp; omega) (fun k hk => by injection hk; omega)
  · rcases k3 with rfl | rfl
    · exact hsz
    · simp; omega

theorem conv_bytes (w : World) (G cap : Nat) (l : List UInt8) (hr : Row w G 5 cap (byV l)) (n : Nat) (hn : l.length = n) :
    (convert 68 9 (.slice (some ⟨G, 0, none⟩) n cap)).run Tryd.prog w = .ok (.string ⟨l.toArray⟩) w := by
  subst hn
  refine run_convert_bytes_back w 68 9 5 ⟨G, 0, none⟩ cap l Tryd.underlying68 Tryd.underlying5 Tryd.underlying9 fun j hj => ?_
  rw [add_zero, hr.cell j (by rw [byV_len]; exact hj)]
  simp [byV]

set_option maxHeartbeats 2000000 in
set_option maxRecDepth 100000 in
theorem l01Dec_any (n : Int) (h0 : -9223372036854775808 ≤ n) (h1 : n ≤ 9223372036854775807) (w : World) :
    Calls Tryd.prog 35 #[.int .i64 n] w fun e w' => e = .returned (.string ⟨(Lib.itoa n).toArray⟩) ∧ Below w.heap.size w w' := by
  have R0 := Lib.hid (row_fresh w 5)
  have B0 := Lib.hid ((Below.refl w.heap.size w).alloc (Nat.le_refl _) (.cells #[] 5))
  have HE : Hid (∀ l : List UInt8, l ≠ [] → dd 0 l = Lib.decDigits n.natAbs → Lib.itoa n = if n < 0 then 45 :: l else l) := Lib.hid (fun l hl he => by rw [itoa_abs, ← he, dd_end l hl])
  have HL : Hid ((Lib.decDigits n.natAbs).length ≤ 20) := Lib.hid (decDigits_len20 (by omega))
  go_enter Tryd.func35, Tryd.ntmps35
  go_wp2
  go_loopw [3, 4] (fun o r wr => ∃ (G cap m : Nat) (l : List UInt8) (q : Int), o = .slice (some ⟨G, 0, none⟩) m cap ∧ r = .int .i64 q ∧ l.length = m ∧ Row wr G 5 cap (byV l) ∧ dd q.natAbs l = Lib.decDigits n.natAbs ∧ -9223372036854775808 ≤ q ∧ q ≤ 9223372036854775807 ∧ Below w.heap.size w wr ∧ w.heap.size ≤ G) (fun o r _ => (intOf r).natAbs + (if slen o = 0 then 1 else 0))
  case atStart => exact ⟨w.heap.size, 0, 0, [], n, rfl, rfl, rfl, R0.out, dd_nil _, h0, h1, B0.out, Nat.le_refl _⟩
  case round =>
    obtain ⟨G, cap, m, l, q, rfl, rfl, hm, hr, hd, q0, q1, hb, hG⟩ := hrel
    have hm20 : m ≤ 20 := by
      have h2 := dd_len q.natAbs l
      rw [hd, hm] at h2
      exact Nat.le_trans h2 HL.out
    have hsz : w.heap.size ≤ wr.heap.size := hb.size
    have HR := Lib.hid hr; have HD := Lib.hid hd; have HB := Lib.hid hb; have HM := Lib.hid hm
    clear hr hd hb hm R0 B0
    by_cases hgo : q = 0 ∧ m ≠ 0
    · obtain ⟨rfl, hm0⟩ := hgo
      have mz : ((m : Int) == 0) = false := by simp; omega
      have hl : l ≠ [] := fun e => hm0 (by rw [← HM.out, e]; rfl)
      by_cases hn : n < 0
      · have HI0 := HE.out l hl HD.out
        rw [if_pos hn] at HI0
        have HI := Lib.hid HI0
        clear HI0
        clear hl
        go_wp2_with (at_builtin; refine ahead_byte _ rfl _ _ rfl 45 _ rfl (by rfl) G cap l m HM.out (by rfl) HR.out (by omega) w.heap.size w HB.out hsz ?_; intro G' cap' w1 hr1 hb1 hG1; have HR1 := Lib.hid hr1; have HB1 := Lib.hid hb1; clear hr1 hb1; have hcv := conv_bytes w1 G' cap' (45 :: l) HR1.out (1 + m) (by simp [HM.out]; omega))
        go_ret
        exact ⟨by rw [HI.out]; rfl, HB1.out⟩
      · have HI0 := HE.out l hl HD.out
        rw [if_neg hn] at HI0
        have HI := Lib.hid HI0
        clear HI0
        have hcv := conv_bytes wr G cap l HR.out m HM.out
        clear hl
        go_wp2
        go_ret
        exact ⟨by rw [HI.out]; rfl, HB.out⟩
    · obtain ⟨d, hdd⟩ : ∃ d, q.natAbs % 10 = d := ⟨_, rfl⟩
      have d10 : d < 10 := by omega
      obtain ⟨r, hrr⟩ : ∃ r, q.tdiv 10 = r := ⟨_, rfl⟩
      have hrn : r.natAbs = q.natAbs / 10 := by rw [← hrr, Int.natAbs_tdiv]; rfl
      have hr0 : -9223372036854775808 ≤ r ∧ r ≤ 9223372036854775807 := by omega
      have wr1 : IntKind.i64.wrap r = r := IntWalk.i64_in _ hr0
      have hstep : dd r.natAbs (UInt8.ofNat (48 + d) :: l) = Lib.decDigits n.natAbs := by
        rw [hrn, ← hdd, dd_step, HD.out]
        rintro ⟨k1, k2⟩
        exact hgo ⟨by omega, fun e => k2 (List.length_eq_zero_iff.1 (by rw [HM.out]; exact e))⟩
      have HS := Lib.hid hstep
      have w48 : IntKind.i64.wrap (48 + (d : Int)) = 48 + (d : Int) := IntWalk.i64_in _ (by omega)
      have w8 : IntKind.u8.wrap (48 + (d : Int)) = 48 + (d : Int) := by
        unfold IntKind.wrap; simp [IntKind.bits, IntKind.signed]; omega
      have hbyte : 48 + (d : Int) = ((UInt8.ofNat (48 + d)).toNat : Int) := by rw [(digB_of d10).2]; omega
      have HBy := Lib.hid hbyte
      have HQ := Lib.hid hrn
      clear hstep hbyte hrn
      by_cases ht : q < 0 ∧ d ≠ 0
      · have hq1 : q.tmod 10 = -(d : Int) := by rw [tmod_neg q ht.1, hdd]
        have hlt : -(d : Int) < 0 := by omega
        have wn : IntKind.i64.wrap (d : Int) = (d : Int) := IntWalk.i64_in _ (by omega)

        by_cases hm0 : m = 0
        · subst hm0
          obtain rfl : l = [] := List.length_eq_zero_iff.1 HM.out
          go_wp2
          go_round
          case rel => exact ⟨wr.heap.size, 1, 1, [UInt8.ofNat (48 + d)], r, rfl, rfl, rfl, by rw [HBy.out]; exact row_one wr _ 5, HS.out, hr0.1, hr0.2, HB.out.alloc hsz _, hsz⟩
          case measure => simp [intOf, slen]; have := HQ.out; omega
        · have mz : ((m : Int) == 0) = false := by simp; omega
          have qz : (q == 0) = false := by simp; omega
          go_wp2_with (at_builtin; refine ahead_byte _ rfl _ _ rfl (UInt8.ofNat (48 + d)) _ HBy.out (by rfl) G cap l m HM.out (by rfl) HR.out (by omega) w.heap.size w HB.out hsz ?_; intro G' cap' w1 hr1 hb1 hG1; have HR1 := Lib.hid hr1; have HB1 := Lib.hid hb1; clear hr1 hb1)
          go_round
          case rel => exact ⟨G', cap', 1 + m, UInt8.ofNat (48 + d) :: l, r, rfl, rfl, by simp [HM.out]; omega, HR1.out, HS.out, hr0.1, hr0.2, HB1.out, hG1⟩
          case measure => simp [intOf, slen]; have := HQ.out; omega

      · have hq1 : q.tmod 10 = (d : Int) := by
          by_cases hq : q < 0
          · rw [tmod_neg q hq, hdd]; omega
          · rw [tmod_pos q hq, hdd]
        have hlt : ¬ ((d : Int) < 0) := by omega

        by_cases hm0 : m = 0
        · subst hm0
          obtain rfl : l = [] := List.length_eq_zero_iff.1 HM.out
          go_wp2
          go_round
          case rel => exact ⟨wr.heap.size, 1, 1, [UInt8.ofNat (48 + d)], r, rfl, rfl, rfl, by rw [HBy.out]; exact row_one wr _ 5, HS.out, hr0.1, hr0.2, HB.out.alloc hsz _, hsz⟩
          case measure => simp [intOf, slen]; have := HQ.out; omega
        · have mz : ((m : Int) == 0) = false := by simp; omega
          have qz : (q == 0) = false := by simp; omega
          go_wp2_with (at_builtin; refine ahead_byte _ rfl _ _ rfl (UInt8.ofNat (48 + d)) _ HBy.out (by rfl) G cap l m HM.out (by rfl) HR.out (by omega) w.heap.size w HB.out hsz ?_; intro G' cap' w1 hr1 hb1 hG1; have HR1 := Lib.hid hr1; have HB1 := Lib.hid hb1; clear hr1 hb1)
          go_round
          case rel => exact ⟨G', cap', 1 + m, UInt8.ofNat (48 + d) :: l, r, rfl, rfl, by simp [HM.out]; omega, HR1.out, HS.out, hr0.1, hr0.2, HB1.out, hG1⟩
          case measure => simp [intOf, slen]; have := HQ.out; omega


end Go.Proofs.YtjlbjlcficbdlaaDoor
