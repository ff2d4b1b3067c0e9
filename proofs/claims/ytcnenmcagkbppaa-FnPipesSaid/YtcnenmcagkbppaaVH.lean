import Derived.Test.YtcnenmcagkbppaaRows
import Derived.JoinedOf
import Derived.KernelRfl
/- What the rows ask of this translation's head line. By a program of this repository (genhead.py). -/
namespace Go.V
theorem make_of {P : Program} {c : List Char} {rest : List (List Char)} (h : behindMainWord (wordsSigns P.initOrder.toList) = c :: rest) (h1 : (c == "gc".toList || c == "spec".toList) = false) (h2 : (c == "cut".toList) = true) : P.make = some .cut := by
  unfold Program.make
  rw [h]
  simp only [h1, h2, Bool.true_or, if_true, Bool.false_eq_true, if_false]
theorem mayEnter_of {P : Program} {c : List Char} {rest : List (List Char)} (h : behindMainWord (wordsSigns P.initOrder.toList) = c :: rest) (h1 : stripLifts liftWords (c :: rest) = ([], c :: rest)) (h2 : some c = some "cut".toList)
    (h3 : P.laysLater = false) (h4 : P.bearsReflect = false) (h5 : P.doorFits [] = true) : P.mayEnter = true := by
  unfold Program.mayEnter
  rw [h]
  simp only [h1, h3, h4, h5, List.head?_cons, h2]
  simp
end Go.V
namespace Go.Proofs.Ytcnenmcagkbppaa
open Go.V
def initChars : List Char := [Char.ofNat 104, Char.ofNat 97, Char.ofNat 114, Char.ofNat 110, Char.ofNat 101, Char.ofNat 115, Char.ofNat 115, Char.ofNat 32, Char.ofNat 101, Char.ofNat 100, Char.ofNat 57, Char.ofNat 50, Char.ofNat 48, Char.ofNat 54, Char.ofNat 102, Char.ofNat 97, Char.ofNat 100, Char.ofNat 56, Char.ofNat 56, Char.ofNat 57, Char.ofNat 49, Char.ofNat 50, Char.ofNat 55, Char.ofNat 56, Char.ofNat 102, Char.ofNat 57, Char.ofNat 100, Char.ofNat 97, Char.ofNat 101, Char.ofNat 97, Char.ofNat 51, Char.ofNat 50, Char.ofNat 48, Char.ofNat 100, Char.ofNat 53, Char.ofNat 48, Char.ofNat 101, Char.ofNat 55, Char.ofNat 51, Char.ofNat 56, Char.ofNat 102, Char.ofNat 98, Char.ofNat 54, Char.ofNat 102, Char.ofNat 50, Char.ofNat 52, Char.ofNat 50, Char.ofNat 101, Char.ofNat 56, Char.ofNat 101, Char.ofNat 49, Char.ofNat 99, Char.ofNat 99, Char.ofNat 49, Char.ofNat 55, Char.ofNat 57, Char.ofNat 100, Char.ofNat 48, Char.ofNat 54, Char.ofNat 51, Char.ofNat 49, Char.ofNat 49, Char.ofNat 54, Char.ofNat 100, Char.ofNat 55, Char.ofNat 97, Char.ofNat 50, Char.ofNat 102, Char.ofNat 100, Char.ofNat 56, Char.ofNat 56, Char.ofNat 99, Char.ofNat 32, Char.ofNat 99, Char.ofNat 117, Char.ofNat 116, Char.ofNat 32, Char.ofNat 97, Char.ofNat 116, Char.ofNat 32, Char.ofNat 108, Char.ofNat 111, Char.ofNat 111, Char.ofNat 112, Char.ofNat 46, Char.ofNat 101, Char.ofNat 120, Char.ofNat 97, Char.ofNat 109, Char.ofNat 112, Char.ofNat 108, Char.ofNat 101, Char.ofNat 47, Char.ofNat 103, Char.ofNat 48, Char.ofNat 49, Char.ofNat 51, Char.ofNat 55, Char.ofNat 54, Char.ofNat 47, Char.ofNat 108, Char.ofNat 97, Char.ofNat 119, Char.ofNat 115, Char.ofNat 46, Char.ofNat 70, Char.ofNat 110, Char.ofNat 80, Char.ofNat 105, Char.ofNat 112, Char.ofNat 101, Char.ofNat 115]
theorem initOrder_eq : Try.prog.initOrder = String.ofList initChars := by kernel_rfl
theorem toList_eq : Try.prog.initOrder.toList = initChars := by rw [initOrder_eq, String.toList_ofList]
theorem words_eq : wordsSigns initChars = [[Char.ofNat 104, Char.ofNat 97, Char.ofNat 114, Char.ofNat 110, Char.ofNat 101, Char.ofNat 115, Char.ofNat 115], [Char.ofNat 101, Char.ofNat 100, Char.ofNat 57, Char.ofNat 50, Char.ofNat 48, Char.ofNat 54, Char.ofNat 102, Char.ofNat 97, Char.ofNat 100, Char.ofNat 56, Char.ofNat 56, Char.ofNat 57, Char.ofNat 49, Char.ofNat 50, Char.ofNat 55, Char.ofNat 56, Char.ofNat 102, Char.ofNat 57, Char.ofNat 100, Char.ofNat 97, Char.ofNat 101, Char.ofNat 97, Char.ofNat 51, Char.ofNat 50, Char.ofNat 48, Char.ofNat 100, Char.ofNat 53, Char.ofNat 48, Char.ofNat 101, Char.ofNat 55, Char.ofNat 51, Char.ofNat 56, Char.ofNat 102, Char.ofNat 98, Char.ofNat 54, Char.ofNat 102, Char.ofNat 50, Char.ofNat 52, Char.ofNat 50, Char.ofNat 101, Char.ofNat 56, Char.ofNat 101, Char.ofNat 49, Char.ofNat 99, Char.ofNat 99, Char.ofNat 49, Char.ofNat 55, Char.ofNat 57, Char.ofNat 100, Char.ofNat 48, Char.ofNat 54, Char.ofNat 51, Char.ofNat 49, Char.ofNat 49, Char.ofNat 54, Char.ofNat 100, Char.ofNat 55, Char.ofNat 97, Char.ofNat 50, Char.ofNat 102, Char.ofNat 100, Char.ofNat 56, Char.ofNat 56, Char.ofNat 99], [Char.ofNat 99, Char.ofNat 117, Char.ofNat 116], [Char.ofNat 97, Char.ofNat 116], [Char.ofNat 108, Char.ofNat 111, Char.ofNat 111, Char.ofNat 112, Char.ofNat 46, Char.ofNat 101, Char.ofNat 120, Char.ofNat 97, Char.ofNat 109, Char.ofNat 112, Char.ofNat 108, Char.ofNat 101, Char.ofNat 47, Char.ofNat 103, Char.ofNat 48, Char.ofNat 49, Char.ofNat 51, Char.ofNat 55, Char.ofNat 54, Char.ofNat 47, Char.ofNat 108, Char.ofNat 97, Char.ofNat 119, Char.ofNat 115, Char.ofNat 46, Char.ofNat 70, Char.ofNat 110, Char.ofNat 80, Char.ofNat 105, Char.ofNat 112, Char.ofNat 101, Char.ofNat 115]] := by kernel_rfl
theorem behind_eq : behindMainWord (wordsSigns Try.prog.initOrder.toList) = [[Char.ofNat 99, Char.ofNat 117, Char.ofNat 116], [Char.ofNat 97, Char.ofNat 116], [Char.ofNat 108, Char.ofNat 111, Char.ofNat 111, Char.ofNat 112, Char.ofNat 46, Char.ofNat 101, Char.ofNat 120, Char.ofNat 97, Char.ofNat 109, Char.ofNat 112, Char.ofNat 108, Char.ofNat 101, Char.ofNat 47, Char.ofNat 103, Char.ofNat 48, Char.ofNat 49, Char.ofNat 51, Char.ofNat 55, Char.ofNat 54, Char.ofNat 47, Char.ofNat 108, Char.ofNat 97, Char.ofNat 119, Char.ofNat 115, Char.ofNat 46, Char.ofNat 70, Char.ofNat 110, Char.ofNat 80, Char.ofNat 105, Char.ofNat 112, Char.ofNat 101, Char.ofNat 115]] := by rw [toList_eq, words_eq]; kernel_rfl
theorem make_ok : Try.prog.make = some .cut := make_of behind_eq (by kernel_rfl) (by kernel_rfl)
theorem mayEnter_ok : Try.prog.mayEnter = true := mayEnter_of behind_eq (by kernel_rfl) (by kernel_rfl) (by kernel_rfl) (by kernel_rfl) (by kernel_rfl)
theorem lifts_ok : Try.prog.liftsFinal = false := by
  unfold Program.liftsFinal Program.headLifts; rw [behind_eq]; kernel_rfl
theorem own : ownKnob Try.prog.godebug = none := by kernel_rfl
theorem laidOut : laidOutB Try.prog = true := by kernel_rfl
end Go.Proofs.Ytcnenmcagkbppaa
