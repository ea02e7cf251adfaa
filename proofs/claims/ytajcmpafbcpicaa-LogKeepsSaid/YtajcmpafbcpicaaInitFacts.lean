/- Closed facts of the loaded program that read its word on how it was cut: too long a text for the kernel to read sign by sign. No conditions. -/
import Derived.Test.YtajcmpafbcpicaaRows
import Derived.JoinedCond
import Derived.OpenShut
set_option linter.unusedVariables false
set_option linter.unusedSimpArgs false
namespace Go.Proofs.Ytajcmpafbcpicaa
open Go.RowKit

def initNums : List Nat := [104, 97, 114, 110, 101, 115, 115, 32, 55, 56, 52, 52, 101, 56, 102, 98, 100, 102, 50, 101, 54, 49, 50, 55, 49, 54, 53, 48, 55, 102, 54, 57, 101, 102, 56, 53, 49, 102, 51, 101, 100, 97, 57, 102, 102, 48, 49, 99, 51, 102, 50, 53, 100, 52, 97, 51, 100, 54, 101, 57, 100, 101, 49, 102, 52, 97, 51, 54, 100, 56, 101, 51, 32, 99, 117, 116, 32, 97, 116, 32, 99, 111, 109, 109, 111, 110, 112, 108, 97, 99, 101, 47, 99, 111, 109, 109, 111, 110, 112, 108, 97, 99, 101, 108, 97, 119, 48, 54, 46, 78, 111, 100, 101, 73, 110, 110, 101, 114, 32, 99, 111, 109, 109, 111, 110, 112, 108, 97, 99, 101, 47, 99, 111, 109, 109, 111, 110, 112, 108, 97, 99, 101, 108, 97, 119, 48, 54, 46, 78, 111, 100, 101, 79, 119, 110, 32, 99, 111, 109, 109, 111, 110, 112, 108, 97, 99, 101, 47, 99, 111, 109, 109, 111, 110, 112, 108, 97, 99, 101, 108, 97, 119, 48, 54, 46, 78, 111, 100, 101, 77, 97, 107, 101, 115, 32, 99, 111, 109, 109, 111, 110, 112, 108, 97, 99, 101, 47, 99, 111, 109, 109, 111, 110, 112, 108, 97, 99, 101, 108, 97, 119, 48, 54, 46, 78, 111, 100, 101, 66, 111, 117, 110, 100, 115, 32, 99, 111, 109, 109, 111, 110, 112, 108, 97, 99, 101, 47, 99, 111, 109, 109, 111, 110, 112, 108, 97, 99, 101, 108, 97, 119, 48, 54, 46, 78, 111, 100, 101, 76, 111, 111, 107, 115, 32, 99, 111, 109, 109, 111, 110, 112, 108, 97, 99, 101, 47, 99, 111, 109, 109, 111, 110, 112, 108, 97, 99, 101, 108, 97, 119, 48, 55, 46, 84, 114, 101, 101, 79, 119, 110, 32, 99, 111, 109, 109, 111, 110, 112, 108, 97, 99, 101, 47, 99, 111, 109, 109, 111, 110, 112, 108, 97, 99, 101, 108, 97, 119, 49, 57, 46, 76, 111, 103, 80, 117, 116, 115, 32, 99, 111, 109, 109, 111, 110, 112, 108, 97, 99, 101, 47, 99, 111, 109, 109, 111, 110, 112, 108, 97, 99, 101, 108, 97, 119, 49, 57, 46, 76, 111, 103, 75, 101, 101, 112, 115, 32, 99, 111, 109, 109, 111, 110, 112, 108, 97, 99, 101, 47, 99, 111, 109, 109, 111, 110, 112, 108, 97, 99, 101, 108, 97, 119, 49, 57, 46, 76, 111, 103, 76, 101, 102, 116, 32, 99, 111, 109, 109, 111, 110, 112, 108, 97, 99, 101, 47, 99, 111, 109, 109, 111, 110, 112, 108, 97, 99, 101, 108, 97, 119, 49, 57, 46, 76, 111, 103, 83, 105, 110, 99, 101, 32, 99, 111, 109, 109, 111, 110, 112, 108, 97, 99, 101, 47, 99, 111, 109, 109, 111, 110, 112, 108, 97, 99, 101, 108, 97, 119, 49, 57, 46, 76, 111, 103, 78, 105, 108, 32, 99, 111, 109, 109, 111, 110, 112, 108, 97, 99, 101, 47, 99, 111, 109, 109, 111, 110, 112, 108, 97, 99, 101, 108, 97, 119, 49, 57, 46, 76, 111, 103, 80, 108, 97, 121, 115, 32, 99, 111, 109, 109, 111, 110, 112, 108, 97, 99, 101, 47, 99, 111, 109, 109, 111, 110, 112, 108, 97, 99, 101, 108, 97, 119, 48, 56, 46, 83, 99, 97, 110, 82, 97, 110, 103, 101, 32, 99, 111, 109, 109, 111, 110, 112, 108, 97, 99, 101, 47, 99, 111, 109, 109, 111, 110, 112, 108, 97, 99, 101, 108, 97, 119, 48, 56, 46, 83, 99, 97, 110, 80, 114, 101, 102, 105, 120, 32, 99, 111, 109, 109, 111, 110, 112, 108, 97, 99, 101, 47, 99, 111, 109, 109, 111, 110, 112, 108, 97, 99, 101, 108, 97, 119, 48, 56, 46, 83, 99, 97, 110, 82, 97, 110, 107, 32, 99, 111, 109, 109, 111, 110, 112, 108, 97, 99, 101, 47, 99, 111, 109, 109, 111, 110, 112, 108, 97, 99, 101, 108, 97, 119, 48, 56, 46, 83, 99, 97, 110, 65, 116, 32, 99, 111, 109, 109, 111, 110, 112, 108, 97, 99, 101, 47, 99, 111, 109, 109, 111, 110, 112, 108, 97, 99, 101, 108, 97, 119, 48, 56, 46, 83, 99, 97, 110, 79, 119, 110, 32, 99, 111, 109, 109, 111, 110, 112, 108, 97, 99, 101, 47, 99, 111, 109, 109, 111, 110, 112, 108, 97, 99, 101, 108, 97, 119, 48, 56, 46, 83, 99, 97, 110, 78, 111, 110, 101, 32, 99, 111, 109, 109, 111, 110, 112, 108, 97, 99, 101, 47, 99, 111, 109, 109, 111, 110, 112, 108, 97, 99, 101, 108, 97, 119, 48, 56, 46, 83, 99, 97, 110, 65, 108, 108, 32, 99, 111, 109, 109, 111, 110, 112, 108, 97, 99, 101, 47, 99, 111, 109, 109, 111, 110, 112, 108, 97, 99, 101, 108, 97, 119, 48, 55, 46, 84, 114, 101, 101, 80, 108, 97, 121, 115, 32, 99, 111, 109, 109, 111, 110, 112, 108, 97, 99, 101, 47, 99, 111, 109, 109, 111, 110, 112, 108, 97, 99, 101, 108, 97, 119, 48, 55, 46, 84, 114, 101, 101, 75, 101, 101, 112, 115, 32, 99, 111, 109, 109, 111, 110, 112, 108, 97, 99, 101, 47, 99, 111, 109, 109, 111, 110, 112, 108, 97, 99, 101, 108, 97, 119, 48, 55, 46, 84, 114, 101, 101, 83, 104, 97, 114, 101, 115, 32, 99, 111, 109, 109, 111, 110, 112, 108, 97, 99, 101, 47, 99, 111, 109, 109, 111, 110, 112, 108, 97, 99, 101, 108, 97, 119, 48, 55, 46, 84, 114, 101, 101, 79, 102, 32, 99, 111, 109, 109, 111, 110, 112, 108, 97, 99, 101, 47, 99, 111, 109, 109, 111, 110, 112, 108, 97, 99, 101, 108, 97, 119, 48, 57, 46, 68, 105, 102, 102, 78, 111, 110, 101, 32, 99, 111, 109, 109, 111, 110, 112, 108, 97, 99, 101, 47, 99, 111, 109, 109, 111, 110, 112, 108, 97, 99, 101, 108, 97, 119, 48, 57, 46, 68, 105, 102, 102, 84, 101, 108, 108, 115, 32, 99, 111, 109, 109, 111, 110, 112, 108, 97, 99, 101, 47, 99, 111, 109, 109, 111, 110, 112, 108, 97, 99, 101, 108, 97, 119, 48, 57, 46, 68, 105, 102, 102, 69, 97, 114, 108, 121]
def initChars : List Char := initNums.map Char.ofNat
theorem initOrder_eq : Try.prog.initOrder = String.ofList initChars := by kernel_rfl
theorem initList : Try.prog.initOrder.toList = initChars := by rw [initOrder_eq, String.toList_ofList]
theorem words_step (w r : List Char) (h : w.all (fun c => c != Char.ofNat 32) = true) : wordsSigns (w ++ Char.ofNat 32 :: r) = w :: wordsSigns r := by
  induction w with
  | nil => rfl
  | cons c w ih =>
    simp only [List.all_cons, Bool.and_eq_true, bne_iff_ne, ne_eq] at h
    have hih := ih h.2
    have hstep : wordsSigns (c :: (w ++ Char.ofNat 32 :: r)) = (c :: w) :: wordsSigns r := by
      conv => lhs; unfold wordsSigns
      split
      · rename_i heq; cases heq
      · rename_i heq; injection heq with e1 e2; exact absurd e1 h.1
      · rename_i heq; injection heq with e1 e2; subst e1 e2; rw [hih]

    exact hstep
def wHarness : List Char := initChars.take 7
def wSum : List Char := (initChars.drop 8).take 64
def wCut : List Char := (initChars.drop 73).take 3
def wAt : List Char := (initChars.drop 77).take 2
def wRest : List Char := initChars.drop 80
theorem initSplit : initChars = wHarness ++ Char.ofNat 32 :: (wSum ++ Char.ofNat 32 :: (wCut ++ Char.ofNat 32 :: (wAt ++ Char.ofNat 32 :: wRest))) := by kernel_rfl
theorem wHarness_ : ((wHarness == "harness".toList || wHarness == "ownmain".toList) && isSumSigns wSum) = true := by kernel_rfl
theorem wCut_cut : (wCut == "cut".toList) = true := by kernel_rfl
theorem wCut_gc : (wCut == "gc".toList || wCut == "spec".toList) = false := by kernel_rfl
theorem initWords : behindMainWord (wordsSigns Try.prog.initOrder.toList) = wCut :: wAt :: wordsSigns wRest := by
  rw [initList, initSplit, words_step _ _ (by kernel_rfl), words_step _ _ (by kernel_rfl), words_step _ _ (by kernel_rfl), words_step _ _ (by kernel_rfl)]
  unfold behindMainWord
  dsimp only
  rw [if_pos wHarness_]
theorem make_of {P : Program} {c : List Char} {T : List (List Char)} (h : behindMainWord (wordsSigns P.initOrder.toList) = c :: T) (h1 : (c == "gc".toList || c == "spec".toList) = false) (h2 : (c == "cut".toList) = true) : P.make = some .cut := by
  unfold Program.make
  rw [h]
  dsimp only
  rw [if_neg (by rw [h1]; exact Bool.false_ne_true), if_pos (by rw [h2]; rfl)]
theorem make_ : Try.prog.make = some .cut := make_of initWords wCut_gc wCut_cut
theorem mayEnter_of {P : Program} {c : List Char} {T : List (List Char)} (h : behindMainWord (wordsSigns P.initOrder.toList) = c :: T) (h2 : (c == "cut".toList) = true)
    (hs : stripLifts liftWords (c :: T) = ([], c :: T)) (hl : P.laysLater = false) (hr : P.bearsReflect = false) (hd : P.doorFits [] = true) : P.mayEnter = true := by
  unfold Program.mayEnter
  rw [h]
  have h2' : (some c == some "cut".toList) = true := h2
  dsimp only
  rw [hs]
  simp only [List.head?_cons, hl, hr, hd, h2', Bool.not_false, Bool.or_true, Bool.and_true, List.contains_nil]
theorem wCut_strip (T : List (List Char)) : stripLifts liftWords (wCut :: T) = ([], wCut :: T) := by kernel_rfl
theorem liftsFinal_ : Try.prog.liftsFinal = false := by
  unfold Program.liftsFinal Program.headLifts
  rw [initWords]
  generalize wordsSigns wRest = T
  kernel_rfl
theorem laysLater_ : Try.prog.laysLater = false := by kernel_rfl
theorem bearsReflect_ : Try.prog.bearsReflect = false := by kernel_rfl
theorem doorFits_ : Try.prog.doorFits [] = true := by kernel_rfl
theorem mayEnter_ : Try.prog.mayEnter = true := mayEnter_of initWords wCut_cut (wCut_strip _) laysLater_ bearsReflect_ doorFits_
end Go.Proofs.Ytajcmpafbcpicaa
