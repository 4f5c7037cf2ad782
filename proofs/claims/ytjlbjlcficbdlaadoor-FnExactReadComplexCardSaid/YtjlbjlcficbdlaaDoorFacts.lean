/-
  Closed facts on the translated program alone: which words its head bears. Conditions: none.
-/
import Derived.Test.YtjlbjlcficbdlaaDoorRows
import Derived.JoinedOf
import Derived.KernelRfl
namespace Go.Proofs.YtjlbjlcficbdlaaDoor
open Go

theorem ws_ne : ∀ A : List Char, wordsSigns A ≠ [] := by
  intro A
  induction A with
  | nil => simp [wordsSigns]
  | cons c A ih =>
    unfold wordsSigns
    split
    · simp
    · simp
    · rename_i h; obtain ⟨rfl, rfl⟩ := h
      split <;> simp

theorem ws_append (R : List Char) : ∀ A : List Char, wordsSigns (A ++ Char.ofNat 32 :: R) = wordsSigns A ++ wordsSigns R := by
  intro A
  induction A with
  | nil => simp [wordsSigns]
  | cons c A ih =>
    by_cases hc : c = Char.ofNat 32
    · subst hc; simp [wordsSigns, ih]
    · have h1 : ∀ B : List Char, wordsSigns (c :: B) = match wordsSigns B with | w :: ws => (c :: w) :: ws | [] => [[c]] := by
        intro B
        conv => lhs; unfold wordsSigns
        split
        · rename_i h; cases h
        · rename_i h; cases h; exact absurd rfl hc
        · rename_i h; obtain ⟨rfl, rfl⟩ := h; rfl
      rw [List.cons_append, h1, h1, ih]
      cases hw : wordsSigns A with
      | nil => exact absurd hw (ws_ne A)
      | cons w ws => rfl

def ioH : List Char := [Char.ofNat 104, Char.ofNat 97, Char.ofNat 114, Char.ofNat 110, Char.ofNat 101, Char.ofNat 115, Char.ofNat 115]
def ioS : List Char := [Char.ofNat 101, Char.ofNat 102, Char.ofNat 97, Char.ofNat 99, Char.ofNat 48, Char.ofNat 52, Char.ofNat 51, Char.ofNat 53, Char.ofNat 48, Char.ofNat 97, Char.ofNat 57, Char.ofNat 48, Char.ofNat 55, Char.ofNat 50, Char.ofNat 56, Char.ofNat 56, Char.ofNat 101, Char.ofNat 48, Char.ofNat 50, Char.ofNat 48, Char.ofNat 54, Char.ofNat 52, Char.ofNat 56, Char.ofNat 50, Char.ofNat 99, Char.ofNat 54, Char.ofNat 52, Char.ofNat 49, Char.ofNat 48, Char.ofNat 49, Char.ofNat 48, Char.ofNat 99, Char.ofNat 97, Char.ofNat 102, Char.ofNat 48, Char.ofNat 53, Char.ofNat 49, Char.ofNat 51, Char.ofNat 97, Char.ofNat 54, Char.ofNat 101, Char.ofNat 99, Char.ofNat 98, Char.ofNat 49, Char.ofNat 56, Char.ofNat 101, Char.ofNat 55, Char.ofNat 48, Char.ofNat 100, Char.ofNat 56, Char.ofNat 97, Char.ofNat 98, Char.ofNat 101, Char.ofNat 49, Char.ofNat 53, Char.ofNat 100, Char.ofNat 57, Char.ofNat 53, Char.ofNat 98, Char.ofNat 99, Char.ofNat 53, Char.ofNat 52, Char.ofNat 99, Char.ofNat 101]
def ioC : List Char := [Char.ofNat 99, Char.ofNat 117, Char.ofNat 116]
def ioT : List Char := [Char.ofNat 97, Char.ofNat 116, Char.ofNat 32, Char.ofNat 108, Char.ofNat 111, Char.ofNat 111, Char.ofNat 112, Char.ofNat 46, Char.ofNat 101, Char.ofNat 120, Char.ofNat 97, Char.ofNat 109, Char.ofNat 112, Char.ofNat 108, Char.ofNat 101, Char.ofNat 47, Char.ofNat 103, Char.ofNat 48, Char.ofNat 49, Char.ofNat 51, Char.ofNat 56, Char.ofNat 57, Char.ofNat 47, Char.ofNat 108, Char.ofNat 97, Char.ofNat 119, Char.ofNat 115, Char.ofNat 46, Char.ofNat 70, Char.ofNat 110, Char.ofNat 69, Char.ofNat 120, Char.ofNat 97, Char.ofNat 99, Char.ofNat 116, Char.ofNat 68, Char.ofNat 101, Char.ofNat 99, Char.ofNat 105, Char.ofNat 109, Char.ofNat 97, Char.ofNat 108, Char.ofNat 32, Char.ofNat 108, Char.ofNat 111, Char.ofNat 111, Char.ofNat 112, Char.ofNat 46, Char.ofNat 101, Char.ofNat 120, Char.ofNat 97, Char.ofNat 109, Char.ofNat 112, Char.ofNat 108, Char.ofNat 101, Char.ofNat 47, Char.ofNat 103, Char.ofNat 48, Char.ofNat 49, Char.ofNat 51] ++ ([Char.ofNat 56, Char.ofNat 57, Char.ofNat 47, Char.ofNat 108, Char.ofNat 97, Char.ofNat 119, Char.ofNat 115, Char.ofNat 46, Char.ofNat 70, Char.ofNat 110, Char.ofNat 69, Char.ofNat 120, Char.ofNat 97, Char.ofNat 99, Char.ofNat 116, Char.ofNat 82, Char.ofNat 101, Char.ofNat 97, Char.ofNat 100, Char.ofNat 68, Char.ofNat 101, Char.ofNat 99, Char.ofNat 105, Char.ofNat 109, Char.ofNat 97, Char.ofNat 108, Char.ofNat 32, Char.ofNat 108, Char.ofNat 111, Char.ofNat 111, Char.ofNat 112, Char.ofNat 46, Char.ofNat 101, Char.ofNat 120, Char.ofNat 97, Char.ofNat 109, Char.ofNat 112, Char.ofNat 108, Char.ofNat 101, Char.ofNat 47, Char.ofNat 103, Char.ofNat 48, Char.ofNat 49, Char.ofNat 51, Char.ofNat 56, Char.ofNat 57, Char.ofNat 47, Char.ofNat 108, Char.ofNat 97, Char.ofNat 119, Char.ofNat 115, Char.ofNat 46, Char.ofNat 70, Char.ofNat 110, Char.ofNat 69, Char.ofNat 120, Char.ofNat 97, Char.ofNat 99, Char.ofNat 116, Char.ofNat 76] ++ ([Char.ofNat 105, Char.ofNat 115, Char.ofNat 116, Char.ofNat 84, Char.ofNat 101, Char.ofNat 120, Char.ofNat 116, Char.ofNat 32, Char.ofNat 108, Char.ofNat 111, Char.ofNat 111, Char.ofNat 112, Char.ofNat 46, Char.ofNat 101, Char.ofNat 120, Char.ofNat 97, Char.ofNat 109, Char.ofNat 112, Char.ofNat 108, Char.ofNat 101, Char.ofNat 47, Char.ofNat 103, Char.ofNat 48, Char.ofNat 49, Char.ofNat 51, Char.ofNat 56, Char.ofNat 57, Char.ofNat 47, Char.ofNat 108, Char.ofNat 97, Char.ofNat 119, Char.ofNat 115, Char.ofNat 46, Char.ofNat 70, Char.ofNat 110, Char.ofNat 69, Char.ofNat 120, Char.ofNat 97, Char.ofNat 99, Char.ofNat 116, Char.ofNat 82, Char.ofNat 101, Char.ofNat 97, Char.ofNat 100, Char.ofNat 76, Char.ofNat 105, Char.ofNat 115, Char.ofNat 116, Char.ofNat 32, Char.ofNat 108, Char.ofNat 111, Char.ofNat 111, Char.ofNat 112, Char.ofNat 46, Char.ofNat 101, Char.ofNat 120, Char.ofNat 97, Char.ofNat 109, Char.ofNat 112, Char.ofNat 108] ++ ([Char.ofNat 101, Char.ofNat 47, Char.ofNat 103, Char.ofNat 48, Char.ofNat 49, Char.ofNat 51, Char.ofNat 56, Char.ofNat 57, Char.ofNat 47, Char.ofNat 108, Char.ofNat 97, Char.ofNat 119, Char.ofNat 115, Char.ofNat 46, Char.ofNat 70, Char.ofNat 110, Char.ofNat 69, Char.ofNat 120, Char.ofNat 97, Char.ofNat 99, Char.ofNat 116, Char.ofNat 78, Char.ofNat 117, Char.ofNat 109, Char.ofNat 98, Char.ofNat 101, Char.ofNat 114, Char.ofNat 115, Char.ofNat 84, Char.ofNat 101, Char.ofNat 120, Char.ofNat 116, Char.ofNat 32, Char.ofNat 108, Char.ofNat 111, Char.ofNat 111, Char.ofNat 112, Char.ofNat 46, Char.ofNat 101, Char.ofNat 120, Char.ofNat 97, Char.ofNat 109, Char.ofNat 112, Char.ofNat 108, Char.ofNat 101, Char.ofNat 47, Char.ofNat 103, Char.ofNat 48, Char.ofNat 49, Char.ofNat 51, Char.ofNat 56, Char.ofNat 57, Char.ofNat 47, Char.ofNat 108, Char.ofNat 97, Char.ofNat 119, Char.ofNat 115, Char.ofNat 46, Char.ofNat 70, Char.ofNat 110] ++ ([Char.ofNat 69, Char.ofNat 120, Char.ofNat 97, Char.ofNat 99, Char.ofNat 116, Char.ofNat 82, Char.ofNat 101, Char.ofNat 97, Char.ofNat 100, Char.ofNat 78, Char.ofNat 117, Char.ofNat 109, Char.ofNat 98, Char.ofNat 101, Char.ofNat 114, Char.ofNat 115, Char.ofNat 32, Char.ofNat 108, Char.ofNat 111, Char.ofNat 111, Char.ofNat 112, Char.ofNat 46, Char.ofNat 101, Char.ofNat 120, Char.ofNat 97, Char.ofNat 109, Char.ofNat 112, Char.ofNat 108, Char.ofNat 101, Char.ofNat 47, Char.ofNat 103, Char.ofNat 48, Char.ofNat 49, Char.ofNat 51, Char.ofNat 56, Char.ofNat 57, Char.ofNat 47, Char.ofNat 108, Char.ofNat 97, Char.ofNat 119, Char.ofNat 115, Char.ofNat 46, Char.ofNat 70, Char.ofNat 110, Char.ofNat 69, Char.ofNat 120, Char.ofNat 97, Char.ofNat 99, Char.ofNat 116, Char.ofNat 82, Char.ofNat 101, Char.ofNat 97, Char.ofNat 100, Char.ofNat 67, Char.ofNat 111, Char.ofNat 109, Char.ofNat 112, Char.ofNat 108, Char.ofNat 101, Char.ofNat 120]))))

def ioAll : List Char := [Char.ofNat 104, Char.ofNat 97, Char.ofNat 114, Char.ofNat 110, Char.ofNat 101, Char.ofNat 115, Char.ofNat 115, Char.ofNat 32, Char.ofNat 101, Char.ofNat 102, Char.ofNat 97, Char.ofNat 99, Char.ofNat 48, Char.ofNat 52, Char.ofNat 51, Char.ofNat 53, Char.ofNat 48, Char.ofNat 97, Char.ofNat 57, Char.ofNat 48, Char.ofNat 55, Char.ofNat 50, Char.ofNat 56, Char.ofNat 56, Char.ofNat 101, Char.ofNat 48, Char.ofNat 50, Char.ofNat 48, Char.ofNat 54, Char.ofNat 52, Char.ofNat 56, Char.ofNat 50, Char.ofNat 99, Char.ofNat 54, Char.ofNat 52, Char.ofNat 49, Char.ofNat 48, Char.ofNat 49, Char.ofNat 48, Char.ofNat 99, Char.ofNat 97, Char.ofNat 102, Char.ofNat 48, Char.ofNat 53, Char.ofNat 49, Char.ofNat 51, Char.ofNat 97, Char.ofNat 54, Char.ofNat 101, Char.ofNat 99, Char.ofNat 98, Char.ofNat 49, Char.ofNat 56, Char.ofNat 101, Char.ofNat 55, Char.ofNat 48, Char.ofNat 100, Char.ofNat 56, Char.ofNat 97, Char.ofNat 98, Char.ofNat 101, Char.ofNat 49, Char.ofNat 53, Char.ofNat 100, Char.ofNat 57, Char.ofNat 53, Char.ofNat 98, Char.ofNat 99, Char.ofNat 53, Char.ofNat 52, Char.ofNat 99, Char.ofNat 101, Char.ofNat 32, Char.ofNat 99, Char.ofNat 117, Char.ofNat 116, Char.ofNat 32, Char.ofNat 97, Char.ofNat 116, Char.ofNat 32, Char.ofNat 108, Char.ofNat 111, Char.ofNat 111, Char.ofNat 112, Char.ofNat 46, Char.ofNat 101, Char.ofNat 120, Char.ofNat 97, Char.ofNat 109, Char.ofNat 112, Char.ofNat 108, Char.ofNat 101, Char.ofNat 47, Char.ofNat 103, Char.ofNat 48, Char.ofNat 49, Char.ofNat 51, Char.ofNat 56, Char.ofNat 57, Char.ofNat 47, Char.ofNat 108, Char.ofNat 97, Char.ofNat 119, Char.ofNat 115, Char.ofNat 46, Char.ofNat 70, Char.ofNat 110, Char.ofNat 69, Char.ofNat 120, Char.ofNat 97, Char.ofNat 99, Char.ofNat 116, Char.ofNat 68, Char.ofNat 101, Char.ofNat 99, Char.ofNat 105, Char.ofNat 109, Char.ofNat 97, Char.ofNat 108, Char.ofNat 32, Char.ofNat 108, Char.ofNat 111, Char.ofNat 111, Char.ofNat 112, Char.ofNat 46, Char.ofNat 101, Char.ofNat 120, Char.ofNat 97, Char.ofNat 109, Char.ofNat 112, Char.ofNat 108, Char.ofNat 101, Char.ofNat 47, Char.ofNat 103, Char.ofNat 48, Char.ofNat 49, Char.ofNat 51, Char.ofNat 56, Char.ofNat 57, Char.ofNat 47, Char.ofNat 108, Char.ofNat 97, Char.ofNat 119, Char.ofNat 115, Char.ofNat 46, Char.ofNat 70, Char.ofNat 110, Char.ofNat 69, Char.ofNat 120, Char.ofNat 97, Char.ofNat 99, Char.ofNat 116, Char.ofNat 82, Char.ofNat 101, Char.ofNat 97, Char.ofNat 100, Char.ofNat 68, Char.ofNat 101, Char.ofNat 99, Char.ofNat 105, Char.ofNat 109, Char.ofNat 97, Char.ofNat 108, Char.ofNat 32, Char.ofNat 108, Char.ofNat 111, Char.ofNat 111, Char.ofNat 112, Char.ofNat 46, Char.ofNat 101, Char.ofNat 120, Char.ofNat 97, Char.ofNat 109, Char.ofNat 112, Char.ofNat 108, Char.ofNat 101, Char.ofNat 47, Char.ofNat 103, Char.ofNat 48, Char.ofNat 49, Char.ofNat 51, Char.ofNat 56, Char.ofNat 57, Char.ofNat 47, Char.ofNat 108, Char.ofNat 97, Char.ofNat 119, Char.ofNat 115, Char.ofNat 46, Char.ofNat 70, Char.ofNat 110, Char.ofNat 69, Char.ofNat 120, Char.ofNat 97, Char.ofNat 99, Char.ofNat 116, Char.ofNat 76, Char.ofNat 105, Char.ofNat 115, Char.ofNat 116, Char.ofNat 84, Char.ofNat 101, Char.ofNat 120, Char.ofNat 116, Char.ofNat 32, Char.ofNat 108, Char.ofNat 111, Char.ofNat 111, Char.ofNat 112, Char.ofNat 46, Char.ofNat 101, Char.ofNat 120, Char.ofNat 97, Char.ofNat 109, Char.ofNat 112, Char.ofNat 108, Char.ofNat 101, Char.ofNat 47, Char.ofNat 103, Char.ofNat 48, Char.ofNat 49, Char.ofNat 51, Char.ofNat 56, Char.ofNat 57, Char.ofNat 47, Char.ofNat 108, Char.ofNat 97, Char.ofNat 119, Char.ofNat 115, Char.ofNat 46, Char.ofNat 70, Char.ofNat 110, Char.ofNat 69, Char.ofNat 120, Char.ofNat 97, Char.ofNat 99, Char.ofNat 116, Char.ofNat 82, Char.ofNat 101, Char.ofNat 97, Char.ofNat 100, Char.ofNat 76, Char.ofNat 105, Char.ofNat 115, Char.ofNat 116, Char.ofNat 32, Char.ofNat 108, Char.ofNat 111, Char.ofNat 111, Char.ofNat 112, Char.ofNat 46, Char.ofNat 101, Char.ofNat 120, Char.ofNat 97, Char.ofNat 109, Char.ofNat 112, Char.ofNat 108, Char.ofNat 101, Char.ofNat 47, Char.ofNat 103, Char.ofNat 48, Char.ofNat 49, Char.ofNat 51, Char.ofNat 56, Char.ofNat 57, Char.ofNat 47, Char.ofNat 108, Char.ofNat 97, Char.ofNat 119, Char.ofNat 115, Char.ofNat 46, Char.ofNat 70, Char.ofNat 110, Char.ofNat 69, Char.ofNat 120, Char.ofNat 97, Char.ofNat 99, Char.ofNat 116, Char.ofNat 78, Char.ofNat 117, Char.ofNat 109, Char.ofNat 98, Char.ofNat 101, Char.ofNat 114, Char.ofNat 115, Char.ofNat 84, Char.ofNat 101, Char.ofNat 120, Char.ofNat 116, Char.ofNat 32, Char.ofNat 108, Char.ofNat 111, Char.ofNat 111, Char.ofNat 112, Char.ofNat 46, Char.ofNat 101, Char.ofNat 120, Char.ofNat 97, Char.ofNat 109, Char.ofNat 112, Char.ofNat 108, Char.ofNat 101, Char.ofNat 47, Char.ofNat 103, Char.ofNat 48, Char.ofNat 49, Char.ofNat 51, Char.ofNat 56, Char.ofNat 57, Char.ofNat 47, Char.ofNat 108, Char.ofNat 97, Char.ofNat 119, Char.ofNat 115, Char.ofNat 46, Char.ofNat 70, Char.ofNat 110, Char.ofNat 69, Char.ofNat 120, Char.ofNat 97, Char.ofNat 99, Char.ofNat 116, Char.ofNat 82, Char.ofNat 101, Char.ofNat 97, Char.ofNat 100, Char.ofNat 78, Char.ofNat 117, Char.ofNat 109, Char.ofNat 98, Char.ofNat 101, Char.ofNat 114, Char.ofNat 115, Char.ofNat 32, Char.ofNat 108, Char.ofNat 111, Char.ofNat 111, Char.ofNat 112, Char.ofNat 46, Char.ofNat 101, Char.ofNat 120, Char.ofNat 97, Char.ofNat 109, Char.ofNat 112, Char.ofNat 108, Char.ofNat 101, Char.ofNat 47, Char.ofNat 103, Char.ofNat 48, Char.ofNat 49, Char.ofNat 51, Char.ofNat 56, Char.ofNat 57, Char.ofNat 47, Char.ofNat 108, Char.ofNat 97, Char.ofNat 119, Char.ofNat 115, Char.ofNat 46, Char.ofNat 70, Char.ofNat 110, Char.ofNat 69, Char.ofNat 120, Char.ofNat 97, Char.ofNat 99, Char.ofNat 116, Char.ofNat 82, Char.ofNat 101, Char.ofNat 97, Char.ofNat 100, Char.ofNat 67, Char.ofNat 111, Char.ofNat 109, Char.ofNat 112, Char.ofNat 108, Char.ofNat 101, Char.ofNat 120]
set_option maxRecDepth 100000 in
theorem io1 : Tryd.prog.initOrder = String.ofList ioAll := by kernel_rfl
set_option maxRecDepth 100000 in
theorem io2 : ioAll = ioH ++ Char.ofNat 32 :: (ioS ++ Char.ofNat 32 :: (ioC ++ Char.ofNat 32 :: ioT)) := by kernel_rfl

theorem ioWords : ∃ W, wordsSigns Tryd.prog.initOrder.toList = ioH :: ioS :: ioC :: W := by
  refine ⟨wordsSigns ioT, ?_⟩
  have h1 : wordsSigns ioH = [ioH] := by kernel_rfl
  have h2 : wordsSigns ioS = [ioS] := by kernel_rfl
  have h3 : wordsSigns ioC = [ioC] := by kernel_rfl
  rw [io1, String.toList_ofList, io2, ws_append, ws_append, ws_append, h1, h2, h3]
  rfl

theorem behind (W : List (List Char)) : behindMainWord (ioH :: ioS :: ioC :: W) = ioC :: W := by kernel_rfl
theorem strips (W : List (List Char)) : stripLifts liftWords (ioC :: W) = ([], ioC :: W) := by kernel_rfl
theorem ioC1 : (ioC == "gc".toList || ioC == "spec".toList) = false := by kernel_rfl
theorem ioC2 : (ioC == "cut".toList) = true := by kernel_rfl
theorem ioC3 : (ioC == "carried".toList) = false := by kernel_rfl
theorem ioC4 (W : List (List Char)) : ((ioC :: W).head? == some "cut".toList) = true := by kernel_rfl
theorem lays : Tryd.prog.laysLater = false := by kernel_rfl
theorem reflects : Tryd.prog.bearsReflect = false := by kernel_rfl
theorem doors : Tryd.prog.doorFits [] = true := by kernel_rfl

theorem mayEnter_of (P : Program) (W : List (List Char)) (h : wordsSigns P.initOrder.toList = ioH :: ioS :: ioC :: W) (h1 : P.laysLater = false) (h2 : P.bearsReflect = false) (h3 : P.doorFits [] = true) : P.mayEnter = true := by
  unfold Program.mayEnter
  rw [h, behind]
  simp only [strips, ioC1, ioC3, ioC4, h1, h2, h3, Bool.false_and, Bool.false_or, Bool.true_and, Bool.not_false, Bool.or_true, Bool.and_true]
  kernel_rfl

theorem liftsFinal_of (P : Program) (W : List (List Char)) (h : wordsSigns P.initOrder.toList = ioH :: ioS :: ioC :: W) : P.liftsFinal = false := by
  unfold Program.liftsFinal Program.headLifts
  rw [h]
  clear h
  kernel_rfl

theorem make_of (P : Program) (W : List (List Char)) (h : wordsSigns P.initOrder.toList = ioH :: ioS :: ioC :: W) : P.make = some .cut := by
  unfold Program.make
  rw [h, behind]
  simp only [ioC1, ioC2, Bool.true_or, if_true]
  rfl

theorem mayEnter : Tryd.prog.mayEnter = true := by
  obtain ⟨W, h⟩ := ioWords
  exact mayEnter_of _ W h lays reflects doors
theorem liftsFinal : Tryd.prog.liftsFinal = false := by
  obtain ⟨W, h⟩ := ioWords
  exact liftsFinal_of _ W h
theorem make : Tryd.prog.make = some .cut := by
  obtain ⟨W, h⟩ := ioWords
  exact make_of _ W h

theorem and_tt {a b : Bool} (h : a = true) (k : b = true) : (a && b) = true := by rw [h, k]; rfl
end Go.Proofs.YtjlbjlcficbdlaaDoor
