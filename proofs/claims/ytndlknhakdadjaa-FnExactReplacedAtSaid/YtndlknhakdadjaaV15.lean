/- Small words for the walks: a branch on a truth value, a call by equal arguments. -/
import Derived.Test.YtndlknhakdadjaaV14
set_option linter.unusedVariables false
set_option linter.unusedSimpArgs false
namespace Go.V
theorem bsplit {b : Bool} {P Q : Prop} (h0 : b = false → Q) (h1 : b = true → P) : (match (generalizing := false) b with | true => P | false => Q) := by
  cases b
  · exact h0 rfl
  · exact h1 rfl
theorem bsplitT {b : Bool} {P Q : Prop} (h1 : b = true → P) (h0 : b = false → Q) : (match (generalizing := false) b with | true => P | false => Q) := bsplit h0 h1
theorem Sat.of_eq {P : Program} {g : FuncId} {args args' : List D} {res : D} (h : Sat P g args res) (e : args' = args) : Sat P g args' res := by rw [e]; exact h
theorem Sat.res_eq {P : Program} {g : FuncId} {args : List D} {res res' : D} (h : Sat P g args res) (e : res = res') : Sat P g args res' := by rw [← e]; exact h
theorem take_full {α : Type} {l : List α} {n : Nat} (h : l.length ≤ n) : l.take n = l := List.take_of_length_le h
theorem ceq {a b : D} {l m : List D} (h : a = b) (h2 : l = m) : a :: l = b :: m := by rw [h, h2]
theorem vfull {l : List Value} {n : Nat} (h : l.length ≤ n) : D.v (.agg ⟨(l.drop 0).take n⟩) = D.v (.agg ⟨l⟩) := by rw [List.drop_zero, take_full h]
theorem rfull {l : List Value} {n sz k : Nat} {m : Bool} (h : l.length ≤ n) : D.row m sz (.v (.agg ⟨(l.drop 0).take n⟩)) k = D.row m sz (.v (.agg ⟨l⟩)) k := by rw [List.drop_zero, take_full h]
theorem vintS {k : IntKind} {a b : Int} (h : a = b) : some (D.v (.int k a)) = some (D.v (.int k b)) := by rw [h]
theorem vslcS {f : Bool} {sz : Nat} {id : Id} {o l l' : Nat} (h : l = l') : some (D.slc f sz id o l) = some (D.slc f sz id o l') := by rw [h]
theorem vptrS {id : Id} {o o' : Nat} (h : o = o') : some (D.ptr id o) = some (D.ptr id o') := by rw [h]
theorem vstrS {a b : ByteArray} (h : a = b) : some (D.v (.string a)) = some (D.v (.string b)) := by rw [h]
theorem vboolS {a b : Bool} (h : a = b) : some (D.v (.bool a)) = some (D.v (.bool b)) := by rw [h]
end Go.V
