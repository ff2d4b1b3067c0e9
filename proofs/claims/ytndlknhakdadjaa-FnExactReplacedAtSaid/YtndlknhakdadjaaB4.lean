/- Plain words: lists of whole numbers. -/
import Derived.Test.YtndlknhakdadjaaB3
set_option linter.unusedVariables false
set_option linter.unusedSimpArgs false
namespace Go.V
def I64 (x : Int) : Prop := -9223372036854775808 ≤ x ∧ x ≤ 9223372036854775807
def ix (xs : List Int) (i : Nat) : Int := xs.getD i 0
@[irreducible] def intsC (xs : List Int) : List Value := xs.map (Value.int .i64)
theorem intsC_def (xs : List Int) : intsC xs = xs.map (Value.int .i64) := by unfold intsC; rfl
@[simp] theorem intsC_len (xs : List Int) : (intsC xs).length = xs.length := by simp [intsC_def]
theorem intsC_append (xs ys : List Int) : intsC (xs ++ ys) = intsC xs ++ intsC ys := by simp [intsC_def]
theorem intsC_one (x : Int) : intsC [x] = [.int .i64 x] := by simp [intsC_def]
theorem intsC_nil : intsC [] = [] := by simp [intsC_def]
theorem intsC_set (xs : List Int) (i : Nat) (x : Int) : (intsC xs).set i (.int .i64 x) = intsC (xs.set i x) := by simp [intsC_def, List.map_set]
def intsD (m : Bool) (xs : List Int) : D := .row m 1 (.v (.agg ⟨intsC xs⟩)) xs.length
theorem intN {xs : List Int} {i o : Nat} (h : i < xs.length) (ho : o = i) : nth (intsC xs) o = some (.int .i64 (ix xs i)) := by
  subst ho
  rw [nth_eq, intsC_def, List.getElem?_map]
  unfold ix
  rw [List.getD_eq_getElem?_getD]
  simp [h]
theorem intA {xs : List Int} {i : Nat} (h : i < xs.length) : nth (intsC xs) (0 + (i : Int).toNat * 1) = some (.int .i64 (ix xs i)) := intN h (by simp)
theorem intA' {xs : List Int} {i : Nat} (h : i < xs.length) : nth (intsC xs) ((i : Int).toNat * 1) = some (.int .i64 (ix xs i)) := intN h (by simp)
theorem itake_next {xs : List Int} {i : Nat} (h : i < xs.length) : xs.take (i + 1) = xs.take i ++ [ix xs i] := by
  rw [List.take_add_one]
  unfold ix
  rw [List.getD_eq_getElem?_getD]
  simp [h]
/-- The first i numbers, nothing behind them. -/
def cpI (xs : List Int) (i : Nat) : List Int := xs.take i ++ List.replicate (xs.length - i) 0
theorem cpI_len {xs : List Int} {i : Nat} (h : i ≤ xs.length) : (cpI xs i).length = xs.length := by simp [cpI]; omega
theorem cpI_next {xs : List Int} {i : Nat} (h : i < xs.length) : (cpI xs i).set i (ix xs i) = cpI xs (i + 1) := by
  unfold cpI
  rw [itake_next h, show xs.length - i = (xs.length - (i + 1)) + 1 by omega, List.replicate_succ]
  have hl : (xs.take i).length = i := by simp; omega
  rw [List.set_append_right _ _ (by omega), hl, Nat.sub_self, List.set_cons_zero, List.append_assoc, List.singleton_append]
theorem cpI_all (xs : List Int) : cpI xs xs.length = xs := by simp [cpI]
theorem cpI_zero (xs : List Int) : rep xs.length [Value.int .i64 0] = intsC (cpI xs 0) := by
  simp [cpI, intsC_def, rep]
def marksI (k : Int) (n : Nat) : List Int := (List.range n).map fun j => k + (j : Nat)
@[simp] theorem marksI_len (k : Int) (n : Nat) : (marksI k n).length = n := by simp [marksI]
theorem marksI_next (k : Int) (n : Nat) : marksI k (n + 1) = marksI k n ++ [k + n] := by simp [marksI, List.range_succ]
theorem marksI_ix {k : Int} {n j : Nat} (h : j < n) : ix (marksI k n) j = k + j := by
  unfold ix marksI
  rw [List.getD_eq_getElem?_getD]
  simp [h]
theorem markIA {k : Int} {n i : Nat} (h : i < n) : nth (intsC (marksI k n)) ((i : Int).toNat * 1) = some (.int .i64 (k + i)) := by
  rw [intA' (by rw [marksI_len]; exact h), marksI_ix h]
/-- Numbers of which the first ones are marked. -/
def markedI (k : Int) (n : Nat) (xs : List Int) : List Int := marksI k n ++ xs.drop n
theorem markedI_zero (k : Int) (xs : List Int) : markedI k 0 xs = xs := by simp [markedI, marksI]
theorem markedI_len {k : Int} {n : Nat} {xs : List Int} (h : n ≤ xs.length) : (markedI k n xs).length = xs.length := by simp [markedI, marksI_len]; omega
theorem markedI_all (k : Int) (xs : List Int) : markedI k xs.length xs = marksI k xs.length := by simp [markedI]
theorem markedI_set {k : Int} {n : Nat} {xs : List Int} (h : n < xs.length) : (markedI k n xs).set n (k + n) = markedI k (n + 1) xs := by
  unfold markedI
  rw [List.set_append_right _ _ (by rw [marksI_len]; exact Nat.le_refl _), marksI_len, Nat.sub_self, List.drop_eq_getElem_cons h, marksI_next]
  simp only [List.set_cons_zero, List.append_assoc, List.singleton_append]
theorem strLe {n : Nat} (h : n ≤ 1000000000000) : ((n : Nat) : Int) ≤ IntKind.i64.max := by
  have : IntKind.i64.max = 9223372036854775807 := by decide
  omega
theorem strLe1 {a : ByteArray} {x : UInt8} (h : a.size ≤ 100000000000) : ((a.size + (⟨#[x]⟩ : ByteArray).size : Nat) : Int) ≤ IntKind.i64.max := strLe (by
  have : (⟨#[x]⟩ : ByteArray).size = 1 := rfl
  omega)
end Go.V
