import Derived.Test.YtndlknhakdadjaaW5
import Derived.Test.YtndlknhakdadjaaVT
import Derived.DeepKeys
set_option linter.unusedVariables false
set_option linter.unusedSimpArgs false
/- Plain words: tables of cells, roofs, places. -/
set_option linter.unusedVariables false
set_option linter.unusedSimpArgs false
namespace Go.V

/-- n cells by a rule. -/
@[irreducible] def tab (n : Nat) (f : Nat → Value) : List Value := (List.range n).map f
theorem tab_def (n : Nat) (f : Nat → Value) : tab n f = (List.range n).map f := by unfold tab; rfl
@[simp] theorem tab_length (n : Nat) (f : Nat → Value) : (tab n f).length = n := by rw [tab_def]; simp
theorem nth_tab {n : Nat} {f : Nat → Value} {i : Nat} (h : i < n) : nth (tab n f) i = some (f i) := by
  rw [nth_eq, tab_def]; simp [h]
theorem tab_get {n : Nat} {f : Nat → Value} {i : Nat} (h : i < n) : (tab n f)[i]? = some (f i) := by
  rw [tab_def]; simp [h]
theorem tab_none {n : Nat} {f : Nat → Value} {i : Nat} (h : n ≤ i) : (tab n f)[i]? = none := by
  rw [List.getElem?_eq_none_iff, tab_length]; exact h
theorem tab_congr {n : Nat} {f g : Nat → Value} (h : ∀ i, i < n → f i = g i) : tab n f = tab n g := by
  rw [tab_def, tab_def]
  apply List.map_congr_left
  intro i hi
  exact h i (by simpa using hi)
theorem tab_set {n : Nat} {f : Nat → Value} {i : Nat} {x : Value} : (tab n f).set i x = tab n fun j => if j = i then x else f j := by
  apply List.ext_getElem?
  intro j
  rw [List.getElem?_set]
  by_cases hj : j < n
  · rw [tab_get hj, tab_get hj]
    by_cases h : i = j
    · subst h; simp [hj]
    · simp [h, Ne.symm h]
  · rw [tab_none (by omega), tab_none (by omega)]
    simp only [tab_length]
    split
    · rw [if_neg (by omega)]
    · rfl
theorem w64 {n : Int} (h1 : -9223372036854775808 ≤ n) (h2 : n ≤ 9223372036854775807) : IntKind.i64.wrap n = n := by
  simp only [IntKind.wrap, IntKind.bits, IntKind.signed, Bool.true_and]
  split <;> rename_i h <;> simp at h <;> omega
theorem w8 {n : Int} (h1 : -128 ≤ n) (h2 : n ≤ 127) : IntKind.i8.wrap n = n := by
  simp only [IntKind.wrap, IntKind.bits, IntKind.signed, Bool.true_and]
  split <;> rename_i h <;> simp at h <;> omega
theorem w32 {n : Int} (h1 : -2147483648 ≤ n) (h2 : n ≤ 2147483647) : IntKind.i32.wrap n = n := by
  simp only [IntKind.wrap, IntKind.bits, IntKind.signed, Bool.true_and]
  split <;> rename_i h <;> simp at h <;> omega
theorem wu64 {n : Int} (h1 : 0 ≤ n) (h2 : n ≤ 18446744073709551615) : IntKind.u64.wrap n = n := by
  simp [IntKind.wrap, IntKind.bits, IntKind.signed]
  omega

abbrev i64 (n : Int) : D := .v (.int .i64 n)

structure Roof where
  w : Int
  h : Int
  s : Int
  t : Nat → Nat → Int

structure Roof.In (r : Roof) : Prop where
  w : -128 ≤ r.w ∧ r.w ≤ 127
  h : -128 ≤ r.h ∧ r.h ≤ 127
  s : 0 ≤ r.s ∧ r.s ≤ 255
  t : ∀ c k, 0 ≤ r.t c k ∧ r.t c k ≤ 255

def grid (t : Nat → Nat → Int) : List Value := tab 64 fun i => .int .u8 (t (i / 8) (i % 8))
def roofC (r : Roof) : List Value := .int .i8 r.w :: .int .i8 r.h :: .int .u8 r.s :: grid r.t
theorem grid_get {t : Nat → Nat → Int} {c k : Nat} (hc : c < 8) (hk : k < 8) : nth (grid t) (c * 8 + k) = some (.int .u8 (t c k)) := by
  unfold grid
  rw [nth_tab (by omega)]
  have h1 : (c * 8 + k) / 8 = c := by omega
  have h2 : (c * 8 + k) % 8 = k := by omega
  rw [h1, h2]
theorem roof_get {r : Roof} {i c k : Nat} (hi : i = 3 + c * 8 + k) (hc : c < 8) (hk : k < 8) : nth (roofC r) i = some (.int .u8 (r.t c k)) := by
  subst hi
  rw [show 3 + c * 8 + k = (c * 8 + k) + 3 by omega]
  exact grid_get hc hk

end Go.V
/- Contracts: bounds, kinds, places. -/
set_option linter.unusedVariables false
set_option linter.unusedSimpArgs false
namespace Go.Proofs.Ytndlknhakdadjaa
open Go.V

theorem l00In_sat (n lo hi : Int) : Sat Try.prog 78 [.v (.int .i64 n), .v (.int .i64 lo), .v (.int .i64 hi)] (.v (.bool (decide (n ≥ lo) && decide (n ≤ hi)))) := by
  refine sat_of_wp hMix tOk Try.func78 rfl rfl Try.ntmps78 rfl rfl Try.results78 (by kernel_rfl) ?_
  conv => whnf
  cases h1 : decide (n ≥ lo)
  · exact ⟨rfl, _, rfl, rfl⟩
  · conv => whnf
    cases h2 : decide (n ≤ hi) <;> exact ⟨rfl, _, rfl, rfl⟩

theorem within8_sat (n lo hi : Int) : Sat Try.prog 151 [.v (.int .i8 n), .v (.int .i8 lo), .v (.int .i8 hi)] (.v (.bool (decide (lo ≤ n) && decide (n ≤ hi)))) := by
  refine sat_of_wp hMix tOk Try.func151 rfl rfl Try.ntmps151 rfl rfl Try.results151 (by kernel_rfl) ?_
  conv => whnf
  cases h1 : decide (lo ≤ n)
  · exact ⟨rfl, _, rfl, rfl⟩
  · conv => whnf
    cases h2 : decide (n ≤ hi) <;> exact ⟨rfl, _, rfl, rfl⟩

end Go.Proofs.Ytndlknhakdadjaa
/- Contracts: valid roofs. -/
set_option linter.unusedVariables false
set_option linter.unusedSimpArgs false
namespace Go.V
end Go.V
namespace Go.Proofs.Ytndlknhakdadjaa
open Go.V

end Go.Proofs.Ytndlknhakdadjaa
/- Contracts: the laws' own copies of rows, tables, roofs. -/
set_option linter.unusedVariables false
set_option linter.unusedSimpArgs false
namespace Go.V
def row8 (f : Nat → Int) : List Value := tab 8 fun k => .int .u8 (f k)
theorem row8_get {f : Nat → Int} {i k : Nat} (hi : i = k) (hk : k < 8) : nth (row8 f) i = some (.int .u8 (f k)) := by
  subst hi
  exact nth_tab hk
@[simp] theorem row8_len (f : Nat → Int) : (row8 f).length = 8 := by unfold row8; simp
@[simp] theorem grid_len (t : Nat → Nat → Int) : (grid t).length = 64 := by unfold grid; simp
/-- The cells of a table as one row. -/
def flat (t : Nat → Nat → Int) (i : Nat) : Int := t (i / 8) (i % 8)
theorem splice_all {α : Type} {xs ys : List α} (h : xs.length = ys.length) : splice xs 0 ys = ys := by
  unfold splice; simp [← h]
end Go.V
namespace Go.Proofs.Ytndlknhakdadjaa
open Go.V

end Go.Proofs.Ytndlknhakdadjaa
/- Contracts: valid roofs and ages, both sides. -/
set_option linter.unusedVariables false
set_option linter.unusedSimpArgs false
namespace Go.V
def all8 (p : Nat → Nat → Bool) : Bool := (List.range 8).all fun c => (List.range 8).all fun k => p c k
theorem all8_true {p : Nat → Nat → Bool} (h : ∀ c, c < 8 → ∀ k, k < 8 → p c k = true) : all8 p = true := by
  simp only [all8, List.all_eq_true, List.mem_range]
  exact h
/-- Rows and cells that have been looked at. -/
def Upto (p : Nat → Nat → Bool) (c : Nat) : Prop := ∀ c', c' < c → ∀ k, k < 8 → p c' k = true
def UptoK (p : Nat → Bool) (k : Nat) : Prop := ∀ k', k' < k → p k' = true
theorem Upto.zero (p : Nat → Nat → Bool) : Upto p 0 := fun c' h => by omega
theorem UptoK.zero (p : Nat → Bool) : UptoK p 0 := fun c' h => by omega
theorem Upto.next {p : Nat → Nat → Bool} {c : Nat} (h : Upto p c) (hr : UptoK (p c) 8) : Upto p (c + 1) := by
  intro c' hc k hk
  by_cases e : c' = c
  · subst e; exact hr k hk
  · exact h c' (by omega) k hk
theorem UptoK.next {p : Nat → Bool} {k : Nat} (h : UptoK p k) (hr : p k = true) : UptoK p (k + 1) := by
  intro k' hk
  by_cases e : k' = k
  · subst e; exact hr
  · exact h k' (by omega)
theorem Upto.all {p : Nat → Nat → Bool} (h : Upto p 8) : all8 p = true := all8_true h
theorem succ64 {n : Nat} (h : n < 4294967296) : some (D.v (Value.int .i64 ((n + 1 : Nat) : Int))) = some (D.v (.int .i64 (IntKind.i64.wrap (n + 1)))) := by
  congr 1; exact vint (by rw [w64 (by omega) (by omega)]; omega)
theorem succ8 {n : Nat} (h : n < 127) : some (D.v (Value.int .i8 ((n + 1 : Nat) : Int))) = some (D.v (.int .i8 (IntKind.i8.wrap (n + 1)))) := by
  congr 1; exact vint (by rw [w8 (by omega) (by omega)]; omega)
end Go.V
namespace Go.Proofs.Ytndlknhakdadjaa
open Go.V

end Go.Proofs.Ytndlknhakdadjaa
/- Contracts: valid ages, both sides. -/
set_option linter.unusedVariables false
set_option linter.unusedSimpArgs false
namespace Go.V
theorem grid_at {t : Nat → Nat → Int} {c k o : Nat} (ho : o = c * 8 + k) (hc : c < 8) (hk : k < 8) : nth (grid t) o = some (.int .u8 (t c k)) := by
  subst ho; exact grid_get hc hk
end Go.V
namespace Go.Proofs.Ytndlknhakdadjaa
open Go.V

end Go.Proofs.Ytndlknhakdadjaa
/- Contracts: valid colours, both sides. -/
set_option linter.unusedVariables false
set_option linter.unusedSimpArgs false
namespace Go.V
theorem UptoK.all {p : Nat → Bool} (h : UptoK p 8) : (List.range 8).all p = true := by
  simp only [List.all_eq_true, List.mem_range]
  exact h
end Go.V
namespace Go.Proofs.Ytndlknhakdadjaa
open Go.V

end Go.Proofs.Ytndlknhakdadjaa
/- Contracts: mirrored colours, both sides. -/
set_option linter.unusedVariables false
set_option linter.unusedSimpArgs false
namespace Go.V
def orU8 (a b : Int) : Int := IntKind.u8.wrap (BitVec.ofInt IntKind.u8.bits a ||| BitVec.ofInt IntKind.u8.bits b).toNat
theorem eq_toNat {x : Int} (h : 0 ≤ x) : ∃ n : Nat, x = n := ⟨x.toNat, by omega⟩
end Go.V
namespace Go.Proofs.Ytndlknhakdadjaa
open Go.V
end Go.Proofs.Ytndlknhakdadjaa
/- Contracts: mirrored colours, the program's side, and the law. -/
set_option linter.unusedVariables false
set_option linter.unusedSimpArgs false
namespace Go.V
end Go.V
namespace Go.Proofs.Ytndlknhakdadjaa
open Go.V
end Go.Proofs.Ytndlknhakdadjaa
/- Contracts: the text of colours, both sides, and the law. -/
set_option linter.unusedVariables false
set_option linter.unusedSimpArgs false
namespace Go.V
end Go.V
namespace Go.Proofs.Ytndlknhakdadjaa
open Go.V
end Go.Proofs.Ytndlknhakdadjaa
/- Contracts: how many tiles are red, both sides, and the law. -/
set_option linter.unusedVariables false
set_option linter.unusedSimpArgs false
namespace Go.V
end Go.V
namespace Go.Proofs.Ytndlknhakdadjaa
open Go.V
end Go.Proofs.Ytndlknhakdadjaa
/- Contracts: by how many tiles colours differ, both sides, and the law. -/
set_option linter.unusedVariables false
set_option linter.unusedSimpArgs false
namespace Go.V
end Go.V
namespace Go.Proofs.Ytndlknhakdadjaa
open Go.V
end Go.Proofs.Ytndlknhakdadjaa
/- Contracts: lists of places. -/
set_option linter.unusedVariables false
set_option linter.unusedSimpArgs false
namespace Go.V
abbrev Pl := Nat × Nat
def placesC : List Pl → List Value
  | [] => []
  | q :: r => .int .i8 q.1 :: .int .i8 q.2 :: placesC r
@[simp] theorem placesC_len (a : List Pl) : (placesC a).length = a.length * 2 := by
  induction a with
  | nil => rfl
  | cons q a ih => simp only [placesC, List.length_cons, ih]; omega
def rowP (c k : Nat) : List Pl := (List.range k).map fun j => (c, j)
def gridP (w c : Nat) : List Pl := (List.range c).flatMap fun i => rowP i w
@[simp] theorem rowP_zero (c : Nat) : rowP c 0 = [] := rfl
@[simp] theorem gridP_zero (w : Nat) : gridP w 0 = [] := rfl
@[simp] theorem rowP_len (c k : Nat) : (rowP c k).length = k := by unfold rowP; simp
/-- The places seen so far that are as told. -/
def pick (p : Nat → Nat → Bool) (w c k : Nat) : List Pl := (gridP w c ++ rowP c k).filter fun q => p q.1 q.2
end Go.V
namespace Go.Proofs.Ytndlknhakdadjaa
open Go.V
end Go.Proofs.Ytndlknhakdadjaa
/- Contracts: valid words. -/
set_option linter.unusedVariables false
set_option linter.unusedSimpArgs false
namespace Go.V
end Go.V
namespace Go.Proofs.Ytndlknhakdadjaa
open Go.V

theorem withinInt_sat (n lo hi : Int) : Sat Try.prog 124 [.v (.int .i64 n), .v (.int .i64 lo), .v (.int .i64 hi)] (.v (.bool (decide (lo ≤ n) && decide (n ≤ hi)))) := by
  refine sat_of_wp hMix tOk Try.func124 rfl rfl Try.ntmps124 rfl rfl Try.results124 (by kernel_rfl) ?_
  conv => whnf
  cases h1 : decide (lo ≤ n)
  · exact ⟨rfl, _, rfl, rfl⟩
  · conv => whnf
    cases h2 : decide (n ≤ hi) <;> exact ⟨rfl, _, rfl, rfl⟩

section
variable {g : Nat} {p : Int → Bool}
end

end Go.Proofs.Ytndlknhakdadjaa
/- Contracts: patterns of words, both sides, and the law. -/
set_option linter.unusedVariables false
set_option linter.unusedSimpArgs false
namespace Go.V
def patB (b : ByteArray) (s c k : Nat) : Bool := byteAt b ((k + s * c) % b.size) == 114
def accS (b : ByteArray) (s : Nat) (f : Nat → Int) (q : Pl) : Nat → Int := fun j => if j = q.1 ∧ patB b s q.1 q.2 = true then orU8 (f j) (IntKind.u8.wrap (1 * 2 ^ (min q.2 IntKind.u8.bits))) else f j
def acc (b : ByteArray) (s : Nat) (ps : List Pl) : Nat → Int := ps.foldl (accS b s) fun _ => 0
end Go.V
namespace Go.Proofs.Ytndlknhakdadjaa
open Go.V
theorem within64_sat (n lo hi : Int) : Sat Try.prog 93 [.v (.int .i64 n), .v (.int .i64 lo), .v (.int .i64 hi)] (.v (.bool (decide (lo ≤ n) && decide (n ≤ hi)))) := by
  refine sat_of_wp hMix tOk Try.func93 rfl rfl Try.ntmps93 rfl rfl Try.results93 (by kernel_rfl) ?_
  conv => whnf
  cases h1 : decide (lo ≤ n)
  · exact ⟨rfl, _, rfl, rfl⟩
  · conv => whnf
    cases h2 : decide (n ≤ hi) <;> exact ⟨rfl, _, rfl, rfl⟩

end Go.Proofs.Ytndlknhakdadjaa
/- Contracts: codes of ages, the age of a tile. -/
set_option linter.unusedVariables false
set_option linter.unusedSimpArgs false
namespace Go.V
end Go.V
namespace Go.Proofs.Ytndlknhakdadjaa
open Go.V
end Go.Proofs.Ytndlknhakdadjaa
/- Contracts: the oldest tile, both sides. -/
set_option linter.unusedVariables false
set_option linter.unusedSimpArgs false
namespace Go.V
def nthP (ps : List Pl) (i : Nat) : Pl := ps.getD i (0, 0)
end Go.V
namespace Go.Proofs.Ytndlknhakdadjaa
open Go.V
end Go.Proofs.Ytndlknhakdadjaa
/- Plain words for use: lengths, looks into grids and lists. -/
set_option linter.unusedVariables false
set_option linter.unusedSimpArgs false
namespace Go.V
@[simp] theorem roofC_len (r : Roof) : (roofC r).length = 67 := by simp [roofC]
theorem gridN {t : Nat → Nat → Int} {c k : Nat} (hc : c < 8) (hk : k < 8) : nth (grid t) (0 + (c : Int).toNat * 8 + (k : Int).toNat * 1) = some (.int .u8 (t c k)) := grid_at (by simp) hc hk
theorem roofN {r : Roof} {c k : Nat} (hc : c < 8) (hk : k < 8) : nth (roofC r) (0 + 3 + (c : Int).toNat * 8 + (k : Int).toNat * 1) = some (.int .u8 (r.t c k)) := roof_get (by simp) hc hk
theorem rowN {t : Nat → Int} {k : Nat} (hk : k < 8) : nth (row8 t) (0 + (k : Int).toNat * 1) = some (.int .u8 (t k)) := row8_get (by simp) hk
theorem place_get {ps : List Pl} : ∀ {i : Nat}, i < ps.length → nth (placesC ps) (i * 2) = some (.int .i8 (nthP ps i).1) ∧ nth (placesC ps) (i * 2 + 1) = some (.int .i8 (nthP ps i).2) := by
  induction ps with
  | nil => intro i h; simp at h
  | cons p ps ih =>
    intro i h
    cases i with
    | zero => exact ⟨rfl, rfl⟩
    | succ i =>
      rw [show (i + 1) * 2 = i * 2 + 1 + 1 by omega]
      exact ih (by simpa using h)
theorem placeN1 {ps : List Pl} {i o : Nat} (h : i < ps.length) (ho : o = i * 2) : nth (placesC ps) o = some (.int .i8 (nthP ps i).1) := by subst ho; exact (place_get h).1
theorem placeN2 {ps : List Pl} {i o : Nat} (h : i < ps.length) (ho : o = i * 2 + 1) : nth (placesC ps) o = some (.int .i8 (nthP ps i).2) := by subst ho; exact (place_get h).2
theorem placeA {ps : List Pl} {i : Nat} (h : i < ps.length) : nth (placesC ps) (0 + (i : Int).toNat * 2 + 0) = some (.int .i8 (nthP ps i).1) := placeN1 h (by simp)
theorem placeB {ps : List Pl} {i : Nat} (h : i < ps.length) : nth (placesC ps) (0 + (i : Int).toNat * 2 + 1) = some (.int .i8 (nthP ps i).2) := placeN2 h (by simp)
theorem placeA' {ps : List Pl} {i : Nat} (h : i < ps.length) : nth (placesC ps) ((i : Int).toNat * 2 + 0) = some (.int .i8 (nthP ps i).1) := placeN1 h (by simp)
theorem placeB' {ps : List Pl} {i : Nat} (h : i < ps.length) : nth (placesC ps) ((i : Int).toNat * 2 + 1) = some (.int .i8 (nthP ps i).2) := placeN2 h (by simp)
theorem vsplice {xs ys : List Value} {n : Nat} (h : xs.length = ys.length) (h2 : ys.length ≤ n) : D.v (.agg ⟨((splice xs 0 ys).drop 0).take n⟩) = D.v (.agg ⟨ys⟩) := by
  rw [splice_all h, List.drop_zero, take_full h2]
theorem cset {l l' : List Value} (h : l = l') : some (D.v (.agg ⟨l⟩)) = some (D.v (.agg ⟨l'⟩)) := by rw [h]
end Go.V
/- Contracts: the oldest tile, the reference's side. -/
set_option linter.unusedVariables false
set_option linter.unusedSimpArgs false
namespace Go.V
end Go.V
namespace Go.Proofs.Ytndlknhakdadjaa
open Go.V
end Go.Proofs.Ytndlknhakdadjaa
/- Contracts: OldestOf, both sides, and the law. -/
set_option linter.unusedVariables false
set_option linter.unusedSimpArgs false
namespace Go.V
end Go.V
namespace Go.Proofs.Ytndlknhakdadjaa
open Go.V
end Go.Proofs.Ytndlknhakdadjaa
/- Contracts: FirstBreak, both sides, and the law. -/
set_option linter.unusedVariables false
set_option linter.unusedSimpArgs false
namespace Go.V
end Go.V
namespace Go.Proofs.Ytndlknhakdadjaa
open Go.V
end Go.Proofs.Ytndlknhakdadjaa
/- Contracts: equal grids and roofs; ages some years later, both sides, and the law. -/
set_option linter.unusedVariables false
set_option linter.unusedSimpArgs false
namespace Go.V
end Go.V
namespace Go.Proofs.Ytndlknhakdadjaa
open Go.V
end Go.Proofs.Ytndlknhakdadjaa
/- Contracts: lists of places by a function that carries values with it; marks in lists of places; tiles that are too old. -/
set_option linter.unusedVariables false
set_option linter.unusedSimpArgs false
namespace Go.V
/-- Cells with numbers one after another. -/
def marksC (k : Int) (n : Nat) : List Value := tab n fun j => .int .i8 (IntKind.i8.wrap (k + j))
@[simp] theorem marksC_len (k : Int) (n : Nat) : (marksC k n).length = n := by simp [marksC]
end Go.V
namespace Go.Proofs.Ytndlknhakdadjaa
open Go.V
end Go.Proofs.Ytndlknhakdadjaa
/- Contracts: marks in lists of places; tiles that are too old; broken roofs; the laws. -/
set_option linter.unusedVariables false
set_option linter.unusedSimpArgs false
namespace Go.V
end Go.V
namespace Go.Proofs.Ytndlknhakdadjaa
open Go.V
end Go.Proofs.Ytndlknhakdadjaa
/- Contracts: broken roofs, both sides, and the law. -/
set_option linter.unusedVariables false
set_option linter.unusedSimpArgs false
namespace Go.V
end Go.V
namespace Go.Proofs.Ytndlknhakdadjaa
open Go.V
end Go.Proofs.Ytndlknhakdadjaa
/- Plain words: lists of whole numbers. -/
set_option linter.unusedVariables false
set_option linter.unusedSimpArgs false
namespace Go.V
def I64 (x : Int) : Prop := -9223372036854775808 ≤ x ∧ x ≤ 9223372036854775807
def ix (xs : List Int) (i : Nat) : Int := xs.getD i 0
@[irreducible] def intsC (xs : List Int) : List Value := xs.map (Value.int .i64)
theorem intsC_def (xs : List Int) : intsC xs = xs.map (Value.int .i64) := by unfold intsC; rfl
@[simp] theorem intsC_len (xs : List Int) : (intsC xs).length = xs.length := by simp [intsC_def]
theorem intsC_append (xs ys : List Int) : intsC (xs ++ ys) = intsC xs ++ intsC ys := by simp [intsC_def]
theorem intsC_one (x : Int) : intsC [x] = [.int .i64 x] := by simp [intsC_def]
theorem intsC_nil : intsC [] = [] := by simp [intsC_def]
theorem intsC_set (xs : List Int) (i : Nat) (x : Int) : (intsC xs).set i (.int .i64 x) = intsC (xs.set i x) := by simp [intsC_def, List.map_set]
def intsD (m : Bool) (xs : List Int) : D := .row m 1 (.v (.agg ⟨intsC xs⟩)) xs.length
theorem intN {xs : List Int} {i o : Nat} (h : i < xs.length) (ho : o = i) : nth (intsC xs) o = some (.int .i64 (ix xs i)) := by
  subst ho
  rw [nth_eq, intsC_def, List.getElem?_map]
  unfold ix
  rw [List.getD_eq_getElem?_getD]
  simp [h]
theorem intA {xs : List Int} {i : Nat} (h : i < xs.length) : nth (intsC xs) (0 + (i : Int).toNat * 1) = some (.int .i64 (ix xs i)) := intN h (by simp)
theorem intA' {xs : List Int} {i : Nat} (h : i < xs.length) : nth (intsC xs) ((i : Int).toNat * 1) = some (.int .i64 (ix xs i)) := intN h (by simp)
theorem itake_next {xs : List Int} {i : Nat} (h : i < xs.length) : xs.take (i + 1) = xs.take i ++ [ix xs i] := by
  rw [List.take_add_one]
  unfold ix
  rw [List.getD_eq_getElem?_getD]
  simp [h]
/-- The first i numbers, nothing behind them. -/
def cpI (xs : List Int) (i : Nat) : List Int := xs.take i ++ List.replicate (xs.length - i) 0
theorem cpI_len {xs : List Int} {i : Nat} (h : i ≤ xs.length) : (cpI xs i).length = xs.length := by simp [cpI]; omega
theorem cpI_next {xs : List Int} {i : Nat} (h : i < xs.length) : (cpI xs i).set i (ix xs i) = cpI xs (i + 1) := by
  unfold cpI
  rw [itake_next h, show xs.length - i = (xs.length - (i + 1)) + 1 by omega, List.replicate_succ]
  have hl : (xs.take i).length = i := by simp; omega
  rw [List.set_append_right _ _ (by omega), hl, Nat.sub_self, List.set_cons_zero, List.append_assoc, List.singleton_append]
theorem cpI_all (xs : List Int) : cpI xs xs.length = xs := by simp [cpI]
theorem cpI_zero (xs : List Int) : rep xs.length [Value.int .i64 0] = intsC (cpI xs 0) := by
  simp [cpI, intsC_def, rep]
def marksI (k : Int) (n : Nat) : List Int := (List.range n).map fun j => k + (j : Nat)
@[simp] theorem marksI_len (k : Int) (n : Nat) : (marksI k n).length = n := by simp [marksI]
theorem marksI_ix {k : Int} {n j : Nat} (h : j < n) : ix (marksI k n) j = k + j := by
  unfold ix marksI
  rw [List.getD_eq_getElem?_getD]
  simp [h]
theorem markIA {k : Int} {n i : Nat} (h : i < n) : nth (intsC (marksI k n)) ((i : Int).toNat * 1) = some (.int .i64 (k + i)) := by
  rw [intA' (by rw [marksI_len]; exact h), marksI_ix h]
end Go.V
/- Contracts: lists of whole numbers; visits; the law on visits. -/
set_option linter.unusedVariables false
set_option linter.unusedSimpArgs false
namespace Go.V
end Go.V
namespace Go.Proofs.Ytndlknhakdadjaa
open Go.V
theorem toInt64S_sat (xs : List Int) (hl : xs.length ≤ 1048576) (m : Bool) : Sat Try.prog 28 [intsD m xs] (intsD true xs) := by
  refine sat_of_wp hMix tOk Try.func28 rfl rfl Try.ntmps28 rfl rfl Try.results28 (by kernel_rfl) ?_
  conv => whnf
  repeat (first | (refine And.intro (by first  | exact rfl | decide | omega | (simp [splice]; done) | (constructor <;> omega) | (simp [splice]; omega)) ?_; conv => whnf) | (refine optK_of (intA (by omega)) ?_; conv => whnf) | (refine optK_of (intA' (by omega)) ?_; conv => whnf) | (refine optK_of (markIA (by omega)) ?_; conv => whnf) | (refine optK_of (gridN (by omega) (by omega)) ?_; conv => whnf) | (refine optK_of (rowN (by omega)) ?_; conv => whnf) | (refine optK_of (roofN (by omega) (by omega)) ?_; conv => whnf) | (refine optK_of (placeA (by omega)) ?_; conv => whnf) | (refine optK_of (placeB (by omega)) ?_; conv => whnf) | (refine optK_of (placeA' (by omega)) ?_; conv => whnf) | (refine optK_of (placeB' (by omega)) ?_; conv => whnf))
  refine loop_rule (α := Nat) (fun i => [(0, intsD m xs), (3, .slc true 1 (7, 0, 0) 0 xs.length), (4, .v (.int .i64 i))]) (fun i => [((7, 0, 0), .v (.agg ⟨intsC (cpI xs i)⟩))]) (fun i => i ≤ xs.length) (fun i => xs.length - i) (0) ?_ (sim_of (rn := [((7, 0, 0), (7, 0, 0))]) rfl ?_ ?_) ?_
  · first | omega | (dsimp only; omega) | ((repeat' apply And.intro) <;> omega) | (dsimp only; (repeat' apply And.intro) <;> omega) | trivial
  · ((repeat' (first | exact trivial | apply And.intro)) <;> (first | rfl | exact succ8 (by omega) | exact succ64 (by omega) | exact CapOk.fn (by assumption) _ _ | exact vintS (by omega) | exact vintS (by rw [w64 (by omega) (by omega)]; omega) | exact vintS (by rw [w8 (by omega) (by omega)]; omega) | exact vslcS (by omega) | exact vslcS (by simp)))
  · ((repeat' (first | exact trivial | apply And.intro)) <;> (refine ⟨_, _, rfl, rfl, ?_⟩; first | rfl | (exact cset (cpI_zero xs))))
  intro i hi
  conv => whnf
  repeat (first | (refine And.intro (by first  | exact rfl | decide | omega | (simp [splice]; done) | (constructor <;> omega) | (simp [splice]; omega)) ?_; conv => whnf) | (refine optK_of (intA (by omega)) ?_; conv => whnf) | (refine optK_of (intA' (by omega)) ?_; conv => whnf) | (refine optK_of (markIA (by omega)) ?_; conv => whnf) | (refine optK_of (gridN (by omega) (by omega)) ?_; conv => whnf) | (refine optK_of (rowN (by omega)) ?_; conv => whnf) | (refine optK_of (roofN (by omega) (by omega)) ?_; conv => whnf) | (refine optK_of (placeA (by omega)) ?_; conv => whnf) | (refine optK_of (placeB (by omega)) ?_; conv => whnf) | (refine optK_of (placeA' (by omega)) ?_; conv => whnf) | (refine optK_of (placeB' (by omega)) ?_; conv => whnf))
  cases h : decide ((i : Int) < (xs.length : Int))
  · have hin : i = xs.length := by simp at h; omega
    subst hin
    rw [cpI_all]
    conv => whnf
    repeat (first | (refine And.intro (by first  | exact rfl | decide | omega | (simp [splice]; done) | (constructor <;> omega) | (simp [splice]; omega)) ?_; conv => whnf) | (refine optK_of (intA (by omega)) ?_; conv => whnf) | (refine optK_of (intA' (by omega)) ?_; conv => whnf) | (refine optK_of (markIA (by omega)) ?_; conv => whnf) | (refine optK_of (gridN (by omega) (by omega)) ?_; conv => whnf) | (refine optK_of (rowN (by omega)) ?_; conv => whnf) | (refine optK_of (roofN (by omega) (by omega)) ?_; conv => whnf) | (refine optK_of (placeA (by omega)) ?_; conv => whnf) | (refine optK_of (placeB (by omega)) ?_; conv => whnf) | (refine optK_of (placeA' (by omega)) ?_; conv => whnf) | (refine optK_of (placeB' (by omega)) ?_; conv => whnf))
    first | refine ⟨rfl, _, rfl, ?_⟩ | refine ⟨_, rfl, ?_⟩
    rfl
  have hin : i < xs.length := by simpa using h
  have hcl := cpI_len (xs := xs) (i := i) hi
  conv => whnf
  repeat (first | (refine And.intro (by first  | exact rfl | decide | omega | (simp [splice]; done) | (constructor <;> omega) | (simp [splice]; omega)) ?_; conv => whnf) | (refine optK_of (intA (by omega)) ?_; conv => whnf) | (refine optK_of (intA' (by omega)) ?_; conv => whnf) | (refine optK_of (markIA (by omega)) ?_; conv => whnf) | (refine optK_of (gridN (by omega) (by omega)) ?_; conv => whnf) | (refine optK_of (rowN (by omega)) ?_; conv => whnf) | (refine optK_of (roofN (by omega) (by omega)) ?_; conv => whnf) | (refine optK_of (placeA (by omega)) ?_; conv => whnf) | (refine optK_of (placeB (by omega)) ?_; conv => whnf) | (refine optK_of (placeA' (by omega)) ?_; conv => whnf) | (refine optK_of (placeB' (by omega)) ?_; conv => whnf))
  have setA : (intsC (cpI xs i)).set (0 + (i : Int).toNat * 1) (.int .i64 (ix xs i)) = intsC (cpI xs (i + 1)) := by
    rw [show 0 + (i : Int).toNat * 1 = i by omega, intsC_set, cpI_next hin]
  refine ⟨i + 1, ?_, ?_, sim_of (rn := [((7, 0, 0), (7, 0, 0))]) rfl ?_ ?_⟩
  · (dsimp only; omega)
  · first | omega | (dsimp only; omega) | ((repeat' apply And.intro) <;> omega) | (dsimp only; (repeat' apply And.intro) <;> omega) | trivial
  · ((repeat' (first | exact trivial | apply And.intro)) <;> (first | rfl | exact succ8 (by omega) | exact succ64 (by omega) | exact CapOk.fn (by assumption) _ _ | exact vintS (by omega) | exact vintS (by rw [w64 (by omega) (by omega)]; omega) | exact vintS (by rw [w8 (by omega) (by omega)]; omega) | exact vslcS (by omega) | exact vslcS (by simp)))
  · ((repeat' (first | exact trivial | apply And.intro)) <;> (refine ⟨_, _, rfl, rfl, ?_⟩; first | rfl | (exact cset setA)))
theorem eqInt64S_same (xs : List Int) (hl : xs.length ≤ 1048576) (m m' : Bool) : Sat Try.prog 21 [intsD m xs, intsD m' xs] (.v (.bool true)) := by
  refine sat_of_wp hMix tOk Try.func21 rfl rfl Try.ntmps21 rfl rfl Try.results21 (by kernel_rfl) ?_
  conv => whnf
  repeat (first | (refine And.intro (by first  | exact rfl | decide | omega | (simp [splice]; done) | (constructor <;> omega) | (simp [splice]; omega)) ?_; conv => whnf) | (refine optK_of (intA (by omega)) ?_; conv => whnf) | (refine optK_of (intA' (by omega)) ?_; conv => whnf) | (refine optK_of (markIA (by omega)) ?_; conv => whnf) | (refine optK_of (gridN (by omega) (by omega)) ?_; conv => whnf) | (refine optK_of (rowN (by omega)) ?_; conv => whnf) | (refine optK_of (roofN (by omega) (by omega)) ?_; conv => whnf) | (refine optK_of (placeA (by omega)) ?_; conv => whnf) | (refine optK_of (placeB (by omega)) ?_; conv => whnf) | (refine optK_of (placeA' (by omega)) ?_; conv => whnf) | (refine optK_of (placeB' (by omega)) ?_; conv => whnf))
  rw [show ((xs.length : Int) != (xs.length : Int)) = false by simp]
  conv => whnf
  repeat (first | (refine And.intro (by first  | exact rfl | decide | omega | (simp [splice]; done) | (constructor <;> omega) | (simp [splice]; omega)) ?_; conv => whnf) | (refine optK_of (intA (by omega)) ?_; conv => whnf) | (refine optK_of (intA' (by omega)) ?_; conv => whnf) | (refine optK_of (markIA (by omega)) ?_; conv => whnf) | (refine optK_of (gridN (by omega) (by omega)) ?_; conv => whnf) | (refine optK_of (rowN (by omega)) ?_; conv => whnf) | (refine optK_of (roofN (by omega) (by omega)) ?_; conv => whnf) | (refine optK_of (placeA (by omega)) ?_; conv => whnf) | (refine optK_of (placeB (by omega)) ?_; conv => whnf) | (refine optK_of (placeA' (by omega)) ?_; conv => whnf) | (refine optK_of (placeB' (by omega)) ?_; conv => whnf))
  refine loop_rule (α := Nat) (fun i => [(0, intsD m xs), (1, intsD m' xs), (5, .v (.int .i64 i))]) (fun i => []) (fun i => i ≤ xs.length) (fun i => xs.length - i) (0) ?_ (sim_of (rn := []) rfl ?_ ?_) ?_
  · first | omega | (dsimp only; omega) | ((repeat' apply And.intro) <;> omega) | (dsimp only; (repeat' apply And.intro) <;> omega) | trivial
  · ((repeat' (first | exact trivial | apply And.intro)) <;> (first | rfl | exact succ8 (by omega) | exact succ64 (by omega) | exact CapOk.fn (by assumption) _ _ | exact vintS (by omega) | exact vintS (by rw [w64 (by omega) (by omega)]; omega) | exact vintS (by rw [w8 (by omega) (by omega)]; omega) | exact vslcS (by omega) | exact vslcS (by simp)))
  · ((repeat' (first | exact trivial | apply And.intro)) <;> (refine ⟨_, _, rfl, rfl, ?_⟩; first | rfl | (rfl)))
  intro i hi
  conv => whnf
  repeat (first | (refine And.intro (by first  | exact rfl | decide | omega | (simp [splice]; done) | (constructor <;> omega) | (simp [splice]; omega)) ?_; conv => whnf) | (refine optK_of (intA (by omega)) ?_; conv => whnf) | (refine optK_of (intA' (by omega)) ?_; conv => whnf) | (refine optK_of (markIA (by omega)) ?_; conv => whnf) | (refine optK_of (gridN (by omega) (by omega)) ?_; conv => whnf) | (refine optK_of (rowN (by omega)) ?_; conv => whnf) | (refine optK_of (roofN (by omega) (by omega)) ?_; conv => whnf) | (refine optK_of (placeA (by omega)) ?_; conv => whnf) | (refine optK_of (placeB (by omega)) ?_; conv => whnf) | (refine optK_of (placeA' (by omega)) ?_; conv => whnf) | (refine optK_of (placeB' (by omega)) ?_; conv => whnf))
  cases h : decide ((i : Int) < (xs.length : Int))
  · conv => whnf
    repeat (first | (refine And.intro (by first  | exact rfl | decide | omega | (simp [splice]; done) | (constructor <;> omega) | (simp [splice]; omega)) ?_; conv => whnf) | (refine optK_of (intA (by omega)) ?_; conv => whnf) | (refine optK_of (intA' (by omega)) ?_; conv => whnf) | (refine optK_of (markIA (by omega)) ?_; conv => whnf) | (refine optK_of (gridN (by omega) (by omega)) ?_; conv => whnf) | (refine optK_of (rowN (by omega)) ?_; conv => whnf) | (refine optK_of (roofN (by omega) (by omega)) ?_; conv => whnf) | (refine optK_of (placeA (by omega)) ?_; conv => whnf) | (refine optK_of (placeB (by omega)) ?_; conv => whnf) | (refine optK_of (placeA' (by omega)) ?_; conv => whnf) | (refine optK_of (placeB' (by omega)) ?_; conv => whnf))
    first | refine ⟨rfl, _, rfl, ?_⟩ | refine ⟨_, rfl, ?_⟩
    rfl
  have hin : i < xs.length := by simpa using h
  conv => whnf
  repeat (first | (refine And.intro (by first  | exact rfl | decide | omega | (simp [splice]; done) | (constructor <;> omega) | (simp [splice]; omega)) ?_; conv => whnf) | (refine optK_of (intA (by omega)) ?_; conv => whnf) | (refine optK_of (intA' (by omega)) ?_; conv => whnf) | (refine optK_of (markIA (by omega)) ?_; conv => whnf) | (refine optK_of (gridN (by omega) (by omega)) ?_; conv => whnf) | (refine optK_of (rowN (by omega)) ?_; conv => whnf) | (refine optK_of (roofN (by omega) (by omega)) ?_; conv => whnf) | (refine optK_of (placeA (by omega)) ?_; conv => whnf) | (refine optK_of (placeB (by omega)) ?_; conv => whnf) | (refine optK_of (placeA' (by omega)) ?_; conv => whnf) | (refine optK_of (placeB' (by omega)) ?_; conv => whnf))
  rw [show (ix xs i != ix xs i) = false by simp]
  conv => whnf
  repeat (first | (refine And.intro (by first  | exact rfl | decide | omega | (simp [splice]; done) | (constructor <;> omega) | (simp [splice]; omega)) ?_; conv => whnf) | (refine optK_of (intA (by omega)) ?_; conv => whnf) | (refine optK_of (intA' (by omega)) ?_; conv => whnf) | (refine optK_of (markIA (by omega)) ?_; conv => whnf) | (refine optK_of (gridN (by omega) (by omega)) ?_; conv => whnf) | (refine optK_of (rowN (by omega)) ?_; conv => whnf) | (refine optK_of (roofN (by omega) (by omega)) ?_; conv => whnf) | (refine optK_of (placeA (by omega)) ?_; conv => whnf) | (refine optK_of (placeB (by omega)) ?_; conv => whnf) | (refine optK_of (placeA' (by omega)) ?_; conv => whnf) | (refine optK_of (placeB' (by omega)) ?_; conv => whnf))
  refine ⟨i + 1, ?_, ?_, sim_of (rn := []) rfl ?_ ?_⟩
  · (dsimp only; omega)
  · first | omega | (dsimp only; omega) | ((repeat' apply And.intro) <;> omega) | (dsimp only; (repeat' apply And.intro) <;> omega) | trivial
  · ((repeat' (first | exact trivial | apply And.intro)) <;> (first | rfl | exact succ8 (by omega) | exact succ64 (by omega) | exact CapOk.fn (by assumption) _ _ | exact vintS (by omega) | exact vintS (by rw [w64 (by omega) (by omega)]; omega) | exact vintS (by rw [w8 (by omega) (by omega)]; omega) | exact vslcS (by omega) | exact vslcS (by simp)))
  · ((repeat' (first | exact trivial | apply And.intro)) <;> (refine ⟨_, _, rfl, rfl, ?_⟩; first | rfl | (rfl)))
end Go.Proofs.Ytndlknhakdadjaa
/- Contracts: visits that are checked, both sides, and the law. -/
set_option linter.unusedVariables false
set_option linter.unusedSimpArgs false
namespace Go.V
end Go.V
namespace Go.Proofs.Ytndlknhakdadjaa
open Go.V
end Go.Proofs.Ytndlknhakdadjaa
/- Plain words: values of arrays and structs of whole numbers compared. -/
set_option linter.unusedVariables false
set_option linter.unusedSimpArgs false
namespace Go.V
section
variable {P : Program}
end
end Go.V
/- Contracts: all words, patterns found again, both sides, and the law. -/
set_option linter.unusedVariables false
set_option linter.unusedSimpArgs false
namespace Go.V
def letB : ByteArray := ⟨#[98]⟩
def letR : ByteArray := ⟨#[114]⟩
/-- The j-th word of n letters. -/
def word : Nat → Nat → ByteArray
  | 0, _ => ⟨#[]⟩
  | n + 1, j => word n (j / 2) ++ (if j % 2 = 1 then letR else letB)
@[simp] theorem word_size : ∀ n j, (word n j).size = n
  | 0, _ => rfl
  | n + 1, j => by
    have h1 := word_size n (j / 2)
    have h2 : (if j % 2 = 1 then letR else letB).size = 1 := by split <;> rfl
    simp only [word, ByteArray.size_append, h1, h2]
@[irreducible] def wordsC (n m : Nat) : List Value := tab m fun j => .string (word n j)
@[simp] theorem wordsC_len (n m : Nat) : (wordsC n m).length = m := by unfold wordsC; simp
theorem find_some {p : Nat → Bool} {n s : Nat} (h : s < n) (hp : p s = true) (hno : ∀ j, j < s → p j = false) : (List.range n).find? p = some s := by
  rw [List.find?_range_eq_some]
  exact ⟨hp, by simpa using h, fun j hj => by simp [hno j hj]⟩
theorem find_none {p : Nat → Bool} {n : Nat} (hno : ∀ j, j < n → p j = false) : (List.range n).find? p = none := by
  rw [List.find?_eq_none]
  intro x hx
  simp [hno x (by simpa using hx)]
theorem below_succ {p : Nat → Prop} {q : Nat} (h : ∀ k, k < q → p k) (hq : p q) : ∀ k, k < q + 1 → p k := by
  intro k hk
  by_cases e : k = q
  · subst e; exact hq
  · exact h k (by omega)
end Go.V
namespace Go.Proofs.Ytndlknhakdadjaa
open Go.V
end Go.Proofs.Ytndlknhakdadjaa
/- Contracts: patterns found again, the reference's side, and the law. -/
set_option linter.unusedVariables false
set_option linter.unusedSimpArgs false
namespace Go.V
end Go.V
namespace Go.Proofs.Ytndlknhakdadjaa
open Go.V
end Go.Proofs.Ytndlknhakdadjaa
/- Contracts: something of each place; what has to be replaced, both sides, and the law. -/
set_option linter.unusedVariables false
set_option linter.unusedSimpArgs false
namespace Go.V
def newB (life nx y b : Int) : Int := if nx - b > life then y else b
/-- The first k tiles seen to. -/
def bornS (life nx y : Int) (born : List Int) (k : Nat) : List Int := (born.take k).map (newB life nx y) ++ born.drop k
def cntS (life nx : Int) (born : List Int) (k : Nat) : Nat := (born.take k).countP fun b => decide (nx - b > life)
def nxAt (years : Int) (vs : List Int) (i : Nat) : Int := if i + 1 < vs.length then ix vs (i + 1) else years
def bornI (life years : Int) (vs b0 : List Int) : Nat → List Int
  | 0 => b0
  | i + 1 => bornS life (nxAt years vs i) (ix vs i) (bornI life years vs b0 i) b0.length
def outI (life years : Int) (vs b0 : List Int) : Nat → List Int
  | 0 => []
  | i + 1 => outI life years vs b0 i ++ [((cntS life (nxAt years vs i) (bornI life years vs b0 i) b0.length : Nat) : Int)]
@[simp] theorem bornS_len (life nx y : Int) (born : List Int) (k : Nat) : (bornS life nx y born k).length = born.length := by
  simp [bornS]
  omega
@[simp] theorem bornI_len (life years : Int) (vs b0 : List Int) : ∀ i, (bornI life years vs b0 i).length = b0.length
  | 0 => rfl
  | i + 1 => by simp only [bornI, bornS_len]; exact bornI_len life years vs b0 i
@[simp] theorem outI_len (life years : Int) (vs b0 : List Int) : ∀ i, (outI life years vs b0 i).length = i
  | 0 => rfl
  | i + 1 => by simp only [outI, List.length_append, outI_len life years vs b0 i]; rfl
end Go.V
namespace Go.Proofs.Ytndlknhakdadjaa
open Go.V
end Go.Proofs.Ytndlknhakdadjaa
/- Plain words: lists of strings. -/
set_option linter.unusedVariables false
set_option linter.unusedSimpArgs false
namespace Go.V
def sx (ws : List ByteArray) (i : Nat) : ByteArray := ws.getD i ⟨#[]⟩
structure StrsIn (ws : List ByteArray) : Prop where
  len : ws.length ≤ 9223372036854775807
  sz : ∀ i, i < ws.length → (sx ws i).size ≤ 9223372036854775807
@[irreducible] def strsC (ws : List ByteArray) : List Value := ws.map Value.string
theorem strsC_def (ws : List ByteArray) : strsC ws = ws.map Value.string := by unfold strsC; rfl
@[simp] theorem strsC_len (ws : List ByteArray) : (strsC ws).length = ws.length := by simp [strsC_def]
def strsD (m : Bool) (ws : List ByteArray) : D := .row m 1 (.v (.agg ⟨strsC ws⟩)) ws.length
theorem sx_mem {ws : List ByteArray} {i : Nat} (h : i < ws.length) : sx ws i ∈ ws := by
  unfold sx
  rw [List.getD_eq_getElem?_getD]
  simp [h]
end Go.V
/- Contracts: the nearest pattern, both sides, and the law. -/
set_option linter.unusedVariables false
set_option linter.unusedSimpArgs false
namespace Go.V
end Go.V
namespace Go.Proofs.Ytndlknhakdadjaa
open Go.V
end Go.Proofs.Ytndlknhakdadjaa
/- Plain words: gutters, their pipes, and water. -/
set_option linter.unusedVariables false
set_option linter.unusedSimpArgs false
namespace Go.V
structure Gut where
  n : Int
  dp : Int
  h : Nat → Int
  lv : Int
  ps : List (Int × Int)
def px (ps : List (Int × Int)) (i : Nat) : Int × Int := ps.getD i (0, 0)
structure Gut.In (g : Gut) : Prop where
  n : -128 ≤ g.n ∧ g.n ≤ 127
  dp : -32768 ≤ g.dp ∧ g.dp ≤ 32767
  h : ∀ i, -128 ≤ g.h i ∧ g.h i ≤ 127
  lv : 0 ≤ g.lv ∧ g.lv ≤ 4294967295
  ps : ∀ i, i < g.ps.length → (-128 ≤ (px g.ps i).1 ∧ (px g.ps i).1 ≤ 127) ∧ (-32768 ≤ (px g.ps i).2 ∧ (px g.ps i).2 ≤ 32767)
  len : g.ps.length ≤ 9223372036854775807
@[irreducible] def pipesC (ps : List (Int × Int)) : List Value := ps.flatMap fun q => [.int .i8 q.1, .int .i16 q.2]
theorem pipesC_def (ps : List (Int × Int)) : pipesC ps = ps.flatMap fun q => [.int .i8 q.1, .int .i16 q.2] := by unfold pipesC; rfl
theorem pipesC_cons (q : Int × Int) (ps : List (Int × Int)) : pipesC (q :: ps) = .int .i8 q.1 :: .int .i16 q.2 :: pipesC ps := by simp [pipesC_def]
theorem pipesC_nil : pipesC [] = [] := by simp [pipesC_def]
@[simp] theorem pipesC_len (ps : List (Int × Int)) : (pipesC ps).length = ps.length * 2 := by
  induction ps with
  | nil => simp [pipesC_nil]
  | cons q ps ih => simp only [pipesC_cons, List.length_cons, ih]; omega
theorem pipesC_append (a b : List (Int × Int)) : pipesC (a ++ b) = pipesC a ++ pipesC b := by simp [pipesC_def]
theorem pipe_get : ∀ {ps : List (Int × Int)} {i : Nat}, i < ps.length → nth (pipesC ps) (i * 2) = some (.int .i8 (px ps i).1) ∧ nth (pipesC ps) (i * 2 + 1) = some (.int .i16 (px ps i).2)
  | [], i, h => by simp at h
  | q :: ps, 0, h => by rw [pipesC_cons]; exact ⟨rfl, rfl⟩
  | q :: ps, i + 1, h => by
    rw [show (i + 1) * 2 = i * 2 + 1 + 1 by omega, pipesC_cons]
    exact pipe_get (by simpa using h)
theorem pipeN1 {ps : List (Int × Int)} {i o : Nat} (h : i < ps.length) (ho : o = i * 2) : nth (pipesC ps) o = some (.int .i8 (px ps i).1) := by subst ho; exact (pipe_get h).1
theorem pipeN2 {ps : List (Int × Int)} {i o : Nat} (h : i < ps.length) (ho : o = i * 2 + 1) : nth (pipesC ps) o = some (.int .i16 (px ps i).2) := by subst ho; exact (pipe_get h).2
theorem pipeA {ps : List (Int × Int)} {i : Nat} (h : i < ps.length) : nth (pipesC ps) ((i : Int).toNat * 2 + 0) = some (.int .i8 (px ps i).1) := pipeN1 h (by simp)
theorem pipeB {ps : List (Int × Int)} {i : Nat} (h : i < ps.length) : nth (pipesC ps) ((i : Int).toNat * 2 + 1) = some (.int .i16 (px ps i).2) := pipeN2 h (by simp)
def pipeD (q : Int × Int) : D := .v (.agg ⟨[.int .i8 q.1, .int .i16 q.2]⟩)
theorem pipe_sub : ∀ {ps : List (Int × Int)} {i : Nat}, i < ps.length → ((pipesC ps).drop (i * 2)).take 2 = [.int .i8 (px ps i).1, .int .i16 (px ps i).2]
  | [], i, h => by simp at h
  | q :: ps, 0, h => by rw [pipesC_cons]; rfl
  | q :: ps, i + 1, h => by
    rw [show (i + 1) * 2 = i * 2 + 1 + 1 by omega, pipesC_cons]
    exact pipe_sub (ps := ps) (by simpa using h)
theorem vpipe {ps : List (Int × Int)} {i o : Nat} (ho : o = i * 2) (h : i < ps.length) : D.v (.agg ⟨((pipesC ps).drop o).take 2⟩) = pipeD (px ps i) := by
  subst ho; rw [pipe_sub h]; rfl
def hD (h : Nat → Int) : List D := [.v (.int .i8 (h 0)), .v (.int .i8 (h 1)), .v (.int .i8 (h 2)), .v (.int .i8 (h 3)), .v (.int .i8 (h 4)), .v (.int .i8 (h 5)), .v (.int .i8 (h 6)), .v (.int .i8 (h 7)), .v (.int .i8 (h 8)), .v (.int .i8 (h 9)), .v (.int .i8 (h 10)), .v (.int .i8 (h 11)), .v (.int .i8 (h 12)), .v (.int .i8 (h 13)), .v (.int .i8 (h 14)), .v (.int .i8 (h 15)), .v (.int .i8 (h 16))]
def hV (h : Nat → Int) : List Value := [.int .i8 (h 0), .int .i8 (h 1), .int .i8 (h 2), .int .i8 (h 3), .int .i8 (h 4), .int .i8 (h 5), .int .i8 (h 6), .int .i8 (h 7), .int .i8 (h 8), .int .i8 (h 9), .int .i8 (h 10), .int .i8 (h 11), .int .i8 (h 12), .int .i8 (h 13), .int .i8 (h 14), .int .i8 (h 15), .int .i8 (h 16)]
def pipesD (m : Bool) (ps : List (Int × Int)) : D := .row m 2 (.v (.agg ⟨pipesC ps⟩)) ps.length
def gutL (m : Bool) (g : Gut) : List D := .v (.int .i8 g.n) :: .v (.int .i16 g.dp) :: (hD g.h ++ [.v (.int .u32 g.lv), pipesD m g.ps])
def gutD (m : Bool) (g : Gut) : D := .agg (gutL m g)
theorem cases17 {P : Nat → Prop} (h0 : P 0) (h1 : P 1) (h2 : P 2) (h3 : P 3) (h4 : P 4) (h5 : P 5) (h6 : P 6) (h7 : P 7) (h8 : P 8) (h9 : P 9) (h10 : P 10) (h11 : P 11) (h12 : P 12) (h13 : P 13) (h14 : P 14) (h15 : P 15) (h16 : P 16) : ∀ i, i < 17 → P i := by
  intro i hi
  have : i = 0 ∨ i = 1 ∨ i = 2 ∨ i = 3 ∨ i = 4 ∨ i = 5 ∨ i = 6 ∨ i = 7 ∨ i = 8 ∨ i = 9 ∨ i = 10 ∨ i = 11 ∨ i = 12 ∨ i = 13 ∨ i = 14 ∨ i = 15 ∨ i = 16 := by omega
  rcases this with rfl | rfl | rfl | rfl | rfl | rfl | rfl | rfl | rfl | rfl | rfl | rfl | rfl | rfl | rfl | rfl | rfl <;> assumption
theorem gutH {m : Bool} {g : Gut} {o i : Nat} (ho : o = 2 + i) (h : i < 17) : nth (gutL m g) o = some (.v (.int .i8 (g.h i))) := by
  subst ho
  refine cases17 (P := fun i => nth (gutL m g) (2 + i) = some (.v (.int .i8 (g.h i)))) ?_ ?_ ?_ ?_ ?_ ?_ ?_ ?_ ?_ ?_ ?_ ?_ ?_ ?_ ?_ ?_ ?_ i h <;> rfl
theorem hDN {h : Nat → Int} {o i : Nat} (ho : o = i) (hi : i < 17) : nth (hD h) o = some (.v (.int .i8 (h i))) := by
  subst ho
  refine cases17 (P := fun o => nth (hD h) o = some (.v (.int .i8 (h o)))) ?_ ?_ ?_ ?_ ?_ ?_ ?_ ?_ ?_ ?_ ?_ ?_ ?_ ?_ ?_ ?_ ?_ o hi <;> rfl
theorem hDA {h : Nat → Int} {i : Nat} (hi : i < 17) : nth (hD h) (0 + (i : Int).toNat * 1) = some (.v (.int .i8 (h i))) := hDN (by simp) hi
theorem hDA' {h : Nat → Int} {i : Nat} (hi : i < 17) : nth (hD h) ((i : Int).toNat * 1) = some (.v (.int .i8 (h i))) := hDN (by simp) hi
theorem gutA {m : Bool} {g : Gut} {i : Nat} (h : i < 17) : nth (gutL m g) (0 + 2 + (i : Int).toNat * 1) = some (.v (.int .i8 (g.h i))) := gutH (by omega) h
theorem tab17 (h : Nat → Int) : tab 17 (fun i => .int .i8 (h i)) = hV h := by rw [tab_def]; rfl
/-- Water. -/
def watC (w : Nat → Int) : List Value := tab 17 fun i => .int .i32 (w i)
@[simp] theorem watC_len (w : Nat → Int) : (watC w).length = 17 := by simp [watC]
def watD (w : Nat → Int) : D := .v (.agg ⟨watC w⟩)
structure WatIn (w : Nat → Int) : Prop where
  t : ∀ i, -2147483648 ≤ w i ∧ w i ≤ 2147483647
theorem watN {w : Nat → Int} {o i : Nat} (ho : o = i) (h : i < 17) : nth (watC w) o = some (.int .i32 (w i)) := by subst ho; unfold watC; rw [nth_tab h]
theorem watA {w : Nat → Int} {i : Nat} (h : i < 17) : nth (watC w) (0 + (i : Int).toNat * 1) = some (.int .i32 (w i)) := watN (by simp) h
theorem watA' {w : Nat → Int} {i : Nat} (h : i < 17) : nth (watC w) ((i : Int).toNat * 1) = some (.int .i32 (w i)) := watN (by simp) h
theorem watC_congr {f g : Nat → Int} (h : ∀ i, i < 17 → f i = g i) : watC f = watC g := by
  unfold watC; exact tab_congr fun i hi => by rw [h i hi]
def putW (w : Nat → Int) (c : Nat) (x : Int) : Nat → Int := fun j => if j = c then x else w j
theorem wat_set {w : Nat → Int} {c o : Nat} {x : Int} (ho : o = c) : (watC w).set o (.int .i32 x) = watC (putW w c x) := by
  subst ho
  unfold watC putW
  rw [tab_set]
  apply tab_congr
  intro i hi
  by_cases h : i = o
  · subst h; simp
  · simp [h]
theorem watC_zero : watC (fun _ => 0) = List.replicate 17 (.int .i32 0) := by
  unfold watC; rw [tab_def]; rfl
theorem allN_iff {n : Nat} {p : Nat → Bool} : (List.range n).all p = true ↔ ∀ i, i < n → p i = true := by simp
theorem allN_false {n i : Nat} {p : Nat → Bool} (hi : i < n) (h : p i = false) : (List.range n).all p = false := by
  cases ha : (List.range n).all p
  · rfl
  · rw [allN_iff.1 ha i hi] at h; cases h
/-- What is valid. -/
def deepB (x : Int) : Bool := decide (0 ≤ x) && decide (x ≤ 1000)
def hOk (g : Gut) (k : Nat) : Bool := (decide (0 ≤ g.h k) && decide (g.h k ≤ 9)) && (decide ((k : Int) < g.n) || g.h k == 0)
def pOk (g : Gut) (i : Nat) : Bool := ((decide (0 ≤ (px g.ps i).1) && decide ((px g.ps i).1 ≤ g.n - 1)) && deepB (px g.ps i).2) && (i == 0 || decide ((px g.ps (i - 1)).1 < (px g.ps i).1))
def okG0 (g : Gut) : Bool := (((decide (1 ≤ g.n) && decide (g.n ≤ 17)) && deepB g.dp) && (g.lv.fdiv (2 ^ (min g.n.toNat IntKind.u32.bits)) == 0)) && decide (g.ps.length ≤ 4)
def okG (g : Gut) : Bool := (okG0 g && (List.range 17).all (hOk g)) && (List.range g.ps.length).all (pOk g)
structure Gut.Ok (g : Gut) : Prop where
  n : 1 ≤ g.n ∧ g.n ≤ 17
  dp : 0 ≤ g.dp ∧ g.dp ≤ 1000
  len : g.ps.length ≤ 4
  h : ∀ k, k < 17 → 0 ≤ g.h k ∧ g.h k ≤ 9
  ps : ∀ i, i < g.ps.length → (0 ≤ (px g.ps i).1 ∧ (px g.ps i).1 ≤ g.n - 1) ∧ (0 ≤ (px g.ps i).2 ∧ (px g.ps i).2 ≤ 1000)
theorem okG_ok {g : Gut} (h : okG g = true) : g.Ok := by
  simp only [okG, Bool.and_eq_true] at h
  obtain ⟨⟨h0, h1⟩, h2⟩ := h
  simp only [okG0, deepB, Bool.and_eq_true, decide_eq_true_eq] at h0
  refine ⟨h0.1.1.1, h0.1.1.2, h0.2, fun k hk => ?_, fun i hi => ?_⟩
  · have := allN_iff.1 h1 k hk
    simp only [hOk, Bool.and_eq_true, decide_eq_true_eq] at this
    exact this.1
  · have := allN_iff.1 h2 i hi
    simp only [pOk, deepB, Bool.and_eq_true, decide_eq_true_eq] at this
    exact this.1
end Go.V
/- Contracts: what the laws do with gutters and water. -/
set_option linter.unusedVariables false
set_option linter.unusedSimpArgs false
namespace Go.V
/-- Of an array the first k cells of another one. -/
def mix (x f : Nat → Int) (k : Nat) : Nat → Int := fun j => if j < k then x j else f j
theorem mix_zero (x f : Nat → Int) : mix x f 0 = f := by funext j; simp [mix]
theorem mix_put {x f : Nat → Int} {k : Nat} : putW (mix x f k) k (x k) = mix x f (k + 1) := by
  funext j
  unfold putW mix
  by_cases h : j = k
  · subst h; simp
  · rw [if_neg h]
    by_cases h2 : j < k
    · rw [if_pos h2, if_pos (by omega)]
    · rw [if_neg h2, if_neg (by omega)]
/-- Heights as cells. -/
def hC (h : Nat → Int) : List Value := tab 17 fun i => .int .i8 (h i)
@[simp] theorem hC_len (h : Nat → Int) : (hC h).length = 17 := by simp [hC]
theorem hC_zero : hC (fun _ => 0) = List.replicate 17 (.int .i8 0) := by unfold hC; rw [tab_def]; rfl
theorem hC_set {w : Nat → Int} {c o : Nat} {x : Int} (ho : o = c) : (hC w).set o (.int .i8 x) = hC (putW w c x) := by
  subst ho
  unfold hC putW
  rw [tab_set]
  apply tab_congr
  intro i hi
  by_cases h : i = o
  · subst h; simp
  · simp [h]
theorem hmix_all (x f : Nat → Int) : hC (mix x f 17) = hV x := by
  rw [← tab17]; unfold hC; exact tab_congr fun i hi => by simp [mix, hi]
def cpQ (ps : List (Int × Int)) (i : Nat) : List (Int × Int) := ps.take i ++ List.replicate (ps.length - i) (0, 0)
theorem cpQ_len {ps : List (Int × Int)} {i : Nat} (h : i ≤ ps.length) : (cpQ ps i).length = ps.length := by simp [cpQ]; omega
theorem px_take {ps : List (Int × Int)} {i : Nat} (h : i < ps.length) : ps.take (i + 1) = ps.take i ++ [px ps i] := by
  rw [List.take_add_one]
  unfold px
  rw [List.getD_eq_getElem?_getD]
  simp [h]
theorem cpQ_all (ps : List (Int × Int)) : cpQ ps ps.length = ps := by simp [cpQ]
theorem pipesC_rep : ∀ n, pipesC (List.replicate n (0, 0)) = rep n [.int .i8 0, .int .i16 0]
  | 0 => by simp [pipesC_nil, rep]
  | n + 1 => by
    rw [List.replicate_succ, pipesC_cons, pipesC_rep n]
    unfold rep
    rw [List.replicate_succ, List.flatten_cons]
    rfl
theorem cpQ_zero (ps : List (Int × Int)) : rep ps.length [.int .i8 0, .int .i16 0] = pipesC (cpQ ps 0) := by
  unfold cpQ; rw [List.take_zero, List.nil_append, Nat.sub_zero, pipesC_rep]
theorem cpQ_next {ps : List (Int × Int)} {i : Nat} (h : i < ps.length) : splice (pipesC (cpQ ps i)) (i * 2) [.int .i8 (px ps i).1, .int .i16 (px ps i).2] = pipesC (cpQ ps (i + 1)) := by
  unfold cpQ
  rw [px_take h, show ps.length - i = (ps.length - (i + 1)) + 1 by omega, List.replicate_succ, pipesC_append, pipesC_cons, pipesC_append, pipesC_append, pipesC_cons, pipesC_nil]
  have hl : (pipesC (ps.take i)).length = i * 2 := by simp; omega
  generalize pipesC (ps.take i) = a at *
  unfold splice
  rw [← hl, List.take_left' rfl, List.drop_append, show a.length + [Value.int IntKind.i8 (px ps i).1, Value.int IntKind.i16 (px ps i).2].length - a.length = 2 by simp]
  simp
end Go.V
namespace Go.Proofs.Ytndlknhakdadjaa
open Go.V
theorem szPipeS_sat (ps : List (Int × Int)) (hl : ps.length ≤ 9223372036854775807) (l : Int) (h : 0 ≤ l ∧ l ≤ 1048576) (m : Bool) : Sat Try.prog 75 [pipesD m ps, .v (.int .i64 l)] (.v (.int .i64 (if l - ps.length < 0 then -1 else l - ps.length))) := by
  refine sat_of_wp hMix tOk Try.func75 rfl rfl Try.ntmps75 rfl rfl Try.results75 (by kernel_rfl) ?_
  conv => whnf
  repeat (first | (refine And.intro (by first | exact Nat.le_of_ble_eq_true rfl | exact rfl | decide | omega | (simp [splice]; done) | (constructor <;> omega) | (simp [splice]; omega)) ?_; conv => whnf) | (refine optK_of (watA (by omega)) ?_; conv => whnf) | (refine optK_of (watA' (by omega)) ?_; conv => whnf) | (refine optK_of (hDA (by omega)) ?_; conv => whnf) | (refine optK_of (hDA' (by omega)) ?_; conv => whnf) | (refine optK_of (gutA (by omega)) ?_; conv => whnf) | (refine optK_of (pipeA (by omega)) ?_; conv => whnf) | (refine optK_of (pipeB (by omega)) ?_; conv => whnf))
  rw [show IntKind.i64.wrap (l - (ps.length : Int)) = l - ps.length from w64 (by omega) (by omega)]
  cases h1 : decide (l - (ps.length : Int) < 0)
  · have h' : ¬ l - (ps.length : Int) < 0 := by simpa using h1
    rw [if_neg h']
    conv => whnf
    repeat (first | (refine And.intro (by first | exact Nat.le_of_ble_eq_true rfl | exact rfl | decide | omega | (simp [splice]; done) | (constructor <;> omega) | (simp [splice]; omega)) ?_; conv => whnf) | (refine optK_of (watA (by omega)) ?_; conv => whnf) | (refine optK_of (watA' (by omega)) ?_; conv => whnf) | (refine optK_of (hDA (by omega)) ?_; conv => whnf) | (refine optK_of (hDA' (by omega)) ?_; conv => whnf) | (refine optK_of (gutA (by omega)) ?_; conv => whnf) | (refine optK_of (pipeA (by omega)) ?_; conv => whnf) | (refine optK_of (pipeB (by omega)) ?_; conv => whnf))
    first | refine ⟨rfl, _, rfl, ?_⟩ | refine ⟨_, rfl, ?_⟩
    rfl
  have h' : l - (ps.length : Int) < 0 := by simpa using h1
  rw [if_pos h']
  conv => whnf
  repeat (first | (refine And.intro (by first | exact Nat.le_of_ble_eq_true rfl | exact rfl | decide | omega | (simp [splice]; done) | (constructor <;> omega) | (simp [splice]; omega)) ?_; conv => whnf) | (refine optK_of (watA (by omega)) ?_; conv => whnf) | (refine optK_of (watA' (by omega)) ?_; conv => whnf) | (refine optK_of (hDA (by omega)) ?_; conv => whnf) | (refine optK_of (hDA' (by omega)) ?_; conv => whnf) | (refine optK_of (gutA (by omega)) ?_; conv => whnf) | (refine optK_of (pipeA (by omega)) ?_; conv => whnf) | (refine optK_of (pipeB (by omega)) ?_; conv => whnf))
  first | refine ⟨rfl, _, rfl, ?_⟩ | refine ⟨_, rfl, ?_⟩
  rfl
def szG (g : Gut) (l : Int) : Int := if l - g.ps.length < 0 then -1 else l - g.ps.length
theorem szGutter_sat (g : Gut) (hl : g.ps.length ≤ 9223372036854775807) (l : Int) (h : 0 ≤ l ∧ l ≤ 1048576) : Sat Try.prog 24 [gutD false g, .v (.int .i64 l)] (.v (.int .i64 (szG g l))) := by
  refine sat_of_wp hMix tOk Try.func24 rfl rfl Try.ntmps24 rfl rfl Try.results24 (by kernel_rfl) ?_
  conv => whnf
  repeat (first | (refine And.intro (by first | exact Nat.le_of_ble_eq_true rfl | exact rfl | decide | omega | (simp [splice]; done) | (constructor <;> omega) | (simp [splice]; omega)) ?_; conv => whnf) | (refine optK_of (watA (by omega)) ?_; conv => whnf) | (refine optK_of (watA' (by omega)) ?_; conv => whnf) | (refine optK_of (hDA (by omega)) ?_; conv => whnf) | (refine optK_of (hDA' (by omega)) ?_; conv => whnf) | (refine optK_of (gutA (by omega)) ?_; conv => whnf) | (refine optK_of (pipeA (by omega)) ?_; conv => whnf) | (refine optK_of (pipeB (by omega)) ?_; conv => whnf))
  first | refine ⟨_, _, rfl, Sat.of_eq (szPipeS_sat g.ps hl l h false) (by repeat (first | rfl | exact vfull (by first | (simp [splice]; done) | (simp [splice]; omega)) | exact rfull (by first | (simp [splice]; done) | (simp [splice]; omega)) | exact vpipe (by simp; done) (by omega) | exact vsplice (by simp) (by simp) | refine ceq ?_ ?_ | refine Eq.trans (vsplice (by first | (simp; done) | (simp; omega)) (by first | (simp; done) | (simp; omega))) ?_)), ?_⟩ | refine .inl ⟨_, _, rfl, Sat.of_eq (szPipeS_sat g.ps hl l h false) (by repeat (first | rfl | exact vfull (by first | (simp [splice]; done) | (simp [splice]; omega)) | exact rfull (by first | (simp [splice]; done) | (simp [splice]; omega)) | exact vpipe (by simp; done) (by omega) | exact vsplice (by simp) (by simp) | refine ceq ?_ ?_ | refine Eq.trans (vsplice (by first | (simp; done) | (simp; omega)) (by first | (simp; done) | (simp; omega))) ?_)), ?_⟩
  conv => whnf
  repeat (first | (refine And.intro (by first | exact Nat.le_of_ble_eq_true rfl | exact rfl | decide | omega | (simp [splice]; done) | (constructor <;> omega) | (simp [splice]; omega)) ?_; conv => whnf) | (refine optK_of (watA (by omega)) ?_; conv => whnf) | (refine optK_of (watA' (by omega)) ?_; conv => whnf) | (refine optK_of (hDA (by omega)) ?_; conv => whnf) | (refine optK_of (hDA' (by omega)) ?_; conv => whnf) | (refine optK_of (gutA (by omega)) ?_; conv => whnf) | (refine optK_of (pipeA (by omega)) ?_; conv => whnf) | (refine optK_of (pipeB (by omega)) ?_; conv => whnf))
  rw [show (if l - (g.ps.length : Int) < 0 then -1 else l - g.ps.length) = szG g l from rfl]
  refine bsplitT (fun h1 => ?_) (fun h1 => ?_)
  all_goals (conv => whnf)
  all_goals (repeat (first | (refine And.intro (by first | exact Nat.le_of_ble_eq_true rfl | exact rfl | decide | omega | (simp [splice]; done) | (constructor <;> omega) | (simp [splice]; omega)) ?_; conv => whnf) | (refine optK_of (watA (by omega)) ?_; conv => whnf) | (refine optK_of (watA' (by omega)) ?_; conv => whnf) | (refine optK_of (hDA (by omega)) ?_; conv => whnf) | (refine optK_of (hDA' (by omega)) ?_; conv => whnf) | (refine optK_of (gutA (by omega)) ?_; conv => whnf) | (refine optK_of (pipeA (by omega)) ?_; conv => whnf) | (refine optK_of (pipeB (by omega)) ?_; conv => whnf)))
  · have : szG g l = -1 := by
      have h1' : szG g l < 0 := by simpa using h1
      unfold szG at h1' ⊢
      split
      · rfl
      · rename_i h2; rw [if_neg h2] at h1'; omega
    rw [this]
    first | refine ⟨rfl, _, rfl, ?_⟩ | refine ⟨_, rfl, ?_⟩
    rfl
  first | refine ⟨rfl, _, rfl, ?_⟩ | refine ⟨_, rfl, ?_⟩
  rfl
theorem toInt8A17_sat (h : Nat → Int) : Sat Try.prog 80 [.agg (hD h)] (.v (.agg ⟨hV h⟩)) := by
  refine sat_of_wp hMix tOk Try.func80 rfl rfl Try.ntmps80 rfl rfl Try.results80 (by kernel_rfl) ?_
  conv => whnf
  repeat (first | (refine And.intro (by first | exact Nat.le_of_ble_eq_true rfl | exact rfl | decide | omega | (simp [splice]; done) | (constructor <;> omega) | (simp [splice]; omega)) ?_; conv => whnf) | (refine optK_of (watA (by omega)) ?_; conv => whnf) | (refine optK_of (watA' (by omega)) ?_; conv => whnf) | (refine optK_of (hDA (by omega)) ?_; conv => whnf) | (refine optK_of (hDA' (by omega)) ?_; conv => whnf) | (refine optK_of (gutA (by omega)) ?_; conv => whnf) | (refine optK_of (pipeA (by omega)) ?_; conv => whnf) | (refine optK_of (pipeB (by omega)) ?_; conv => whnf))
  refine loop_rule (α := Nat) (fun k => [(1, .ptr (1, 0, 0) 0), (2, .ptr (2, 0, 0) 0), (3, .ptr (3, 0, 0) 0), (4, .v (.int .i64 k))]) (fun k => [((1, 0, 0), .agg (hD h)), ((2, 0, 0), .v (.agg ⟨List.replicate 17 (.int .i8 0)⟩)), ((3, 0, 0), .v (.agg ⟨hC (mix h (fun _ => 0) k)⟩))]) (fun k => k ≤ 17) (fun k => 17 - k) (0) ?_ (sim_of (rn := [((1, 0, 0), (1, 0, 0)), ((2, 0, 0), (2, 0, 0)), ((3, 0, 0), (3, 0, 0))]) rfl ?_ ?_) ?_
  · first | omega | (dsimp only; omega) | ((repeat' apply And.intro) <;> omega) | (dsimp only; (repeat' apply And.intro) <;> omega) | trivial
  · ((repeat' (first | exact trivial | apply And.intro)) <;> (first | rfl | exact succ8 (by omega) | exact succ64 (by omega) | exact CapOk.fn (by assumption) _ _ | exact vintS (by omega) | exact vintS (by rw [w64 (by omega) (by omega)]; omega) | exact vintS (by rw [w8 (by omega) (by omega)]; omega) | exact vslcS (by omega) | exact vslcS (by simp)))
  · ((repeat' (first | exact trivial | apply And.intro)) <;> (refine ⟨_, _, rfl, rfl, ?_⟩; first | rfl | (exact cset (by rw [mix_zero, hC_zero]))))
  intro k hk
  conv => whnf
  repeat (first | (refine And.intro (by first | exact Nat.le_of_ble_eq_true rfl | exact rfl | decide | omega | (simp [splice]; done) | (constructor <;> omega) | (simp [splice]; omega)) ?_; conv => whnf) | (refine optK_of (watA (by omega)) ?_; conv => whnf) | (refine optK_of (watA' (by omega)) ?_; conv => whnf) | (refine optK_of (hDA (by omega)) ?_; conv => whnf) | (refine optK_of (hDA' (by omega)) ?_; conv => whnf) | (refine optK_of (gutA (by omega)) ?_; conv => whnf) | (refine optK_of (pipeA (by omega)) ?_; conv => whnf) | (refine optK_of (pipeB (by omega)) ?_; conv => whnf))
  cases h1 : decide ((k : Int) < 17)
  · have hk17 : k = 17 := by simp at h1; omega
    subst hk17
    rw [hmix_all]
    conv => whnf
    repeat (first | (refine And.intro (by first | exact Nat.le_of_ble_eq_true rfl | exact rfl | decide | omega | (simp [splice]; done) | (constructor <;> omega) | (simp [splice]; omega)) ?_; conv => whnf) | (refine optK_of (watA (by omega)) ?_; conv => whnf) | (refine optK_of (watA' (by omega)) ?_; conv => whnf) | (refine optK_of (hDA (by omega)) ?_; conv => whnf) | (refine optK_of (hDA' (by omega)) ?_; conv => whnf) | (refine optK_of (gutA (by omega)) ?_; conv => whnf) | (refine optK_of (pipeA (by omega)) ?_; conv => whnf) | (refine optK_of (pipeB (by omega)) ?_; conv => whnf))
    first | refine ⟨rfl, _, rfl, ?_⟩ | refine ⟨_, rfl, ?_⟩
    rfl
  have hk17 : k < 17 := by simp at h1; omega
  conv => whnf
  repeat (first | (refine And.intro (by first | exact Nat.le_of_ble_eq_true rfl | exact rfl | decide | omega | (simp [splice]; done) | (constructor <;> omega) | (simp [splice]; omega)) ?_; conv => whnf) | (refine optK_of (watA (by omega)) ?_; conv => whnf) | (refine optK_of (watA' (by omega)) ?_; conv => whnf) | (refine optK_of (hDA (by omega)) ?_; conv => whnf) | (refine optK_of (hDA' (by omega)) ?_; conv => whnf) | (refine optK_of (gutA (by omega)) ?_; conv => whnf) | (refine optK_of (pipeA (by omega)) ?_; conv => whnf) | (refine optK_of (pipeB (by omega)) ?_; conv => whnf))
  have setA : (hC (mix h (fun _ => 0) k)).set (0 + (k : Int).toNat * 1) (.int .i8 (h k)) = hC (mix h (fun _ => 0) (k + 1)) := by
    rw [show 0 + (k : Int).toNat * 1 = k by omega, hC_set rfl, mix_put]
  refine ⟨k + 1, ?_, ?_, sim_of (rn := [((1, 0, 0), (1, 0, 0)), ((2, 0, 0), (2, 0, 0)), ((3, 0, 0), (3, 0, 0))]) rfl ?_ ?_⟩
  · (dsimp only; omega)
  · first | omega | (dsimp only; omega) | ((repeat' apply And.intro) <;> omega) | (dsimp only; (repeat' apply And.intro) <;> omega) | trivial
  · ((repeat' (first | exact trivial | apply And.intro)) <;> (first | rfl | exact succ8 (by omega) | exact succ64 (by omega) | exact CapOk.fn (by assumption) _ _ | exact vintS (by omega) | exact vintS (by rw [w64 (by omega) (by omega)]; omega) | exact vintS (by rw [w8 (by omega) (by omega)]; omega) | exact vslcS (by omega) | exact vslcS (by simp)))
  · ((repeat' (first | exact trivial | apply And.intro)) <;> (refine ⟨_, _, rfl, rfl, ?_⟩; first | rfl | (exact cset setA)))
theorem toPipe_sat (q : Int × Int) : Sat Try.prog 142 [pipeD q] (pipeD q) := by
  refine sat_of_wp hMix tOk Try.func142 rfl rfl Try.ntmps142 rfl rfl Try.results142 (by kernel_rfl) ?_
  conv => whnf
  repeat (first | (refine And.intro (by first | exact Nat.le_of_ble_eq_true rfl | exact rfl | decide | omega | (simp [splice]; done) | (constructor <;> omega) | (simp [splice]; omega)) ?_; conv => whnf) | (refine optK_of (watA (by omega)) ?_; conv => whnf) | (refine optK_of (watA' (by omega)) ?_; conv => whnf) | (refine optK_of (hDA (by omega)) ?_; conv => whnf) | (refine optK_of (hDA' (by omega)) ?_; conv => whnf) | (refine optK_of (gutA (by omega)) ?_; conv => whnf) | (refine optK_of (pipeA (by omega)) ?_; conv => whnf) | (refine optK_of (pipeB (by omega)) ?_; conv => whnf))
  first | refine ⟨rfl, _, rfl, ?_⟩ | refine ⟨_, rfl, ?_⟩
  rfl
theorem toPipeS_sat (ps : List (Int × Int)) (hl : ps.length ≤ 1048576) (m : Bool) : Sat Try.prog 81 [pipesD m ps] (pipesD true ps) := by
  refine sat_of_wp hMix tOk Try.func81 rfl rfl Try.ntmps81 rfl rfl Try.results81 (by kernel_rfl) ?_
  conv => whnf
  repeat (first | (refine And.intro (by first | exact Nat.le_of_ble_eq_true rfl | exact rfl | decide | omega | (simp [splice]; done) | (constructor <;> omega) | (simp [splice]; omega)) ?_; conv => whnf) | (refine optK_of (watA (by omega)) ?_; conv => whnf) | (refine optK_of (watA' (by omega)) ?_; conv => whnf) | (refine optK_of (hDA (by omega)) ?_; conv => whnf) | (refine optK_of (hDA' (by omega)) ?_; conv => whnf) | (refine optK_of (gutA (by omega)) ?_; conv => whnf) | (refine optK_of (pipeA (by omega)) ?_; conv => whnf) | (refine optK_of (pipeB (by omega)) ?_; conv => whnf))
  refine loop_rule (α := Nat) (fun i => [(0, pipesD m ps), (3, .slc true 2 (7, 0, 0) 0 ps.length), (4, .v (.int .i64 i))]) (fun i => [((7, 0, 0), .v (.agg ⟨pipesC (cpQ ps i)⟩))]) (fun i => i ≤ ps.length) (fun i => ps.length - i) (0) ?_ (sim_of (rn := [((7, 0, 0), (7, 0, 0))]) rfl ?_ ?_) ?_
  · first | omega | (dsimp only; omega) | ((repeat' apply And.intro) <;> omega) | (dsimp only; (repeat' apply And.intro) <;> omega) | trivial
  · ((repeat' (first | exact trivial | apply And.intro)) <;> (first | rfl | exact succ8 (by omega) | exact succ64 (by omega) | exact CapOk.fn (by assumption) _ _ | exact vintS (by omega) | exact vintS (by rw [w64 (by omega) (by omega)]; omega) | exact vintS (by rw [w8 (by omega) (by omega)]; omega) | exact vslcS (by omega) | exact vslcS (by simp)))
  · ((repeat' (first | exact trivial | apply And.intro)) <;> (refine ⟨_, _, rfl, rfl, ?_⟩; first | rfl | (exact cset (cpQ_zero ps))))
  intro i hi
  conv => whnf
  repeat (first | (refine And.intro (by first | exact Nat.le_of_ble_eq_true rfl | exact rfl | decide | omega | (simp [splice]; done) | (constructor <;> omega) | (simp [splice]; omega)) ?_; conv => whnf) | (refine optK_of (watA (by omega)) ?_; conv => whnf) | (refine optK_of (watA' (by omega)) ?_; conv => whnf) | (refine optK_of (hDA (by omega)) ?_; conv => whnf) | (refine optK_of (hDA' (by omega)) ?_; conv => whnf) | (refine optK_of (gutA (by omega)) ?_; conv => whnf) | (refine optK_of (pipeA (by omega)) ?_; conv => whnf) | (refine optK_of (pipeB (by omega)) ?_; conv => whnf))
  cases h : decide ((i : Int) < (ps.length : Int))
  · have hin : i = ps.length := by simp at h; omega
    subst hin
    rw [cpQ_all]
    conv => whnf
    repeat (first | (refine And.intro (by first | exact Nat.le_of_ble_eq_true rfl | exact rfl | decide | omega | (simp [splice]; done) | (constructor <;> omega) | (simp [splice]; omega)) ?_; conv => whnf) | (refine optK_of (watA (by omega)) ?_; conv => whnf) | (refine optK_of (watA' (by omega)) ?_; conv => whnf) | (refine optK_of (hDA (by omega)) ?_; conv => whnf) | (refine optK_of (hDA' (by omega)) ?_; conv => whnf) | (refine optK_of (gutA (by omega)) ?_; conv => whnf) | (refine optK_of (pipeA (by omega)) ?_; conv => whnf) | (refine optK_of (pipeB (by omega)) ?_; conv => whnf))
    first | refine ⟨rfl, _, rfl, ?_⟩ | refine ⟨_, rfl, ?_⟩
    rfl
  have hin : i < ps.length := by simpa using h
  have hcl := cpQ_len (ps := ps) (i := i) hi
  conv => whnf
  repeat (first | (refine And.intro (by first | exact Nat.le_of_ble_eq_true rfl | exact rfl | decide | omega | (simp [splice]; done) | (constructor <;> omega) | (simp [splice]; omega)) ?_; conv => whnf) | (refine optK_of (watA (by omega)) ?_; conv => whnf) | (refine optK_of (watA' (by omega)) ?_; conv => whnf) | (refine optK_of (hDA (by omega)) ?_; conv => whnf) | (refine optK_of (hDA' (by omega)) ?_; conv => whnf) | (refine optK_of (gutA (by omega)) ?_; conv => whnf) | (refine optK_of (pipeA (by omega)) ?_; conv => whnf) | (refine optK_of (pipeB (by omega)) ?_; conv => whnf))
  first | refine ⟨_, _, rfl, Sat.of_eq (toPipe_sat (px ps i)) (by repeat (first | rfl | exact vfull (by first | (simp [splice]; done) | (simp [splice]; omega)) | exact rfull (by first | (simp [splice]; done) | (simp [splice]; omega)) | exact vpipe (by simp; done) (by omega) | exact vsplice (by simp) (by simp) | refine ceq ?_ ?_ | refine Eq.trans (vsplice (by first | (simp; done) | (simp; omega)) (by first | (simp; done) | (simp; omega))) ?_)), ?_⟩ | refine .inl ⟨_, _, rfl, Sat.of_eq (toPipe_sat (px ps i)) (by repeat (first | rfl | exact vfull (by first | (simp [splice]; done) | (simp [splice]; omega)) | exact rfull (by first | (simp [splice]; done) | (simp [splice]; omega)) | exact vpipe (by simp; done) (by omega) | exact vsplice (by simp) (by simp) | refine ceq ?_ ?_ | refine Eq.trans (vsplice (by first | (simp; done) | (simp; omega)) (by first | (simp; done) | (simp; omega))) ?_)), ?_⟩
  conv => whnf
  repeat (first | (refine And.intro (by first | exact Nat.le_of_ble_eq_true rfl | exact rfl | decide | omega | (simp [splice]; done) | (constructor <;> omega) | (simp [splice]; omega)) ?_; conv => whnf) | (refine optK_of (watA (by omega)) ?_; conv => whnf) | (refine optK_of (watA' (by omega)) ?_; conv => whnf) | (refine optK_of (hDA (by omega)) ?_; conv => whnf) | (refine optK_of (hDA' (by omega)) ?_; conv => whnf) | (refine optK_of (gutA (by omega)) ?_; conv => whnf) | (refine optK_of (pipeA (by omega)) ?_; conv => whnf) | (refine optK_of (pipeB (by omega)) ?_; conv => whnf))
  have setA : splice (pipesC (cpQ ps i)) (0 + (i : Int).toNat * 2) [.int .i8 (px ps i).1, .int .i16 (px ps i).2] = pipesC (cpQ ps (i + 1)) := by
    rw [show 0 + (i : Int).toNat * 2 = i * 2 by omega, cpQ_next hin]
  refine ⟨i + 1, ?_, ?_, sim_of (rn := [((7, 0, 0), (7, 0, 0))]) rfl ?_ ?_⟩
  · (dsimp only; omega)
  · first | omega | (dsimp only; omega) | ((repeat' apply And.intro) <;> omega) | (dsimp only; (repeat' apply And.intro) <;> omega) | trivial
  · ((repeat' (first | exact trivial | apply And.intro)) <;> (first | rfl | exact succ8 (by omega) | exact succ64 (by omega) | exact CapOk.fn (by assumption) _ _ | exact vintS (by omega) | exact vintS (by rw [w64 (by omega) (by omega)]; omega) | exact vintS (by rw [w8 (by omega) (by omega)]; omega) | exact vslcS (by omega) | exact vslcS (by simp)))
  · ((repeat' (first | exact trivial | apply And.intro)) <;> (refine ⟨_, _, rfl, rfl, ?_⟩; first | rfl | (exact cset setA)))
theorem toGutter_sat (g : Gut) (hl : g.ps.length ≤ 1048576) : Sat Try.prog 26 [gutD false g] (gutD true g) := by
  refine sat_of_wp hMix tOk Try.func26 rfl rfl Try.ntmps26 rfl rfl Try.results26 (by kernel_rfl) ?_
  conv => whnf
  repeat (first | (refine And.intro (by first | exact Nat.le_of_ble_eq_true rfl | exact rfl | decide | omega | (simp [splice]; done) | (constructor <;> omega) | (simp [splice]; omega)) ?_; conv => whnf) | (refine optK_of (watA (by omega)) ?_; conv => whnf) | (refine optK_of (watA' (by omega)) ?_; conv => whnf) | (refine optK_of (hDA (by omega)) ?_; conv => whnf) | (refine optK_of (hDA' (by omega)) ?_; conv => whnf) | (refine optK_of (gutA (by omega)) ?_; conv => whnf) | (refine optK_of (pipeA (by omega)) ?_; conv => whnf) | (refine optK_of (pipeB (by omega)) ?_; conv => whnf))
  first | refine ⟨_, _, rfl, Sat.of_eq (toInt8A17_sat g.h) (by repeat (first | rfl | exact vfull (by first | (simp [splice]; done) | (simp [splice]; omega)) | exact rfull (by first | (simp [splice]; done) | (simp [splice]; omega)) | exact vpipe (by simp; done) (by omega) | exact vsplice (by simp) (by simp) | refine ceq ?_ ?_ | refine Eq.trans (vsplice (by first | (simp; done) | (simp; omega)) (by first | (simp; done) | (simp; omega))) ?_)), ?_⟩ | refine .inl ⟨_, _, rfl, Sat.of_eq (toInt8A17_sat g.h) (by repeat (first | rfl | exact vfull (by first | (simp [splice]; done) | (simp [splice]; omega)) | exact rfull (by first | (simp [splice]; done) | (simp [splice]; omega)) | exact vpipe (by simp; done) (by omega) | exact vsplice (by simp) (by simp) | refine ceq ?_ ?_ | refine Eq.trans (vsplice (by first | (simp; done) | (simp; omega)) (by first | (simp; done) | (simp; omega))) ?_)), ?_⟩
  conv => whnf
  repeat (first | (refine And.intro (by first | exact Nat.le_of_ble_eq_true rfl | exact rfl | decide | omega | (simp [splice]; done) | (constructor <;> omega) | (simp [splice]; omega)) ?_; conv => whnf) | (refine optK_of (watA (by omega)) ?_; conv => whnf) | (refine optK_of (watA' (by omega)) ?_; conv => whnf) | (refine optK_of (hDA (by omega)) ?_; conv => whnf) | (refine optK_of (hDA' (by omega)) ?_; conv => whnf) | (refine optK_of (gutA (by omega)) ?_; conv => whnf) | (refine optK_of (pipeA (by omega)) ?_; conv => whnf) | (refine optK_of (pipeB (by omega)) ?_; conv => whnf))
  first | refine ⟨_, _, rfl, Sat.of_eq (toPipeS_sat g.ps hl false) (by repeat (first | rfl | exact vfull (by first | (simp [splice]; done) | (simp [splice]; omega)) | exact rfull (by first | (simp [splice]; done) | (simp [splice]; omega)) | exact vpipe (by simp; done) (by omega) | exact vsplice (by simp) (by simp) | refine ceq ?_ ?_ | refine Eq.trans (vsplice (by first | (simp; done) | (simp; omega)) (by first | (simp; done) | (simp; omega))) ?_)), ?_⟩ | refine .inl ⟨_, _, rfl, Sat.of_eq (toPipeS_sat g.ps hl false) (by repeat (first | rfl | exact vfull (by first | (simp [splice]; done) | (simp [splice]; omega)) | exact rfull (by first | (simp [splice]; done) | (simp [splice]; omega)) | exact vpipe (by simp; done) (by omega) | exact vsplice (by simp) (by simp) | refine ceq ?_ ?_ | refine Eq.trans (vsplice (by first | (simp; done) | (simp; omega)) (by first | (simp; done) | (simp; omega))) ?_)), ?_⟩
  conv => whnf
  repeat (first | (refine And.intro (by first | exact Nat.le_of_ble_eq_true rfl | exact rfl | decide | omega | (simp [splice]; done) | (constructor <;> omega) | (simp [splice]; omega)) ?_; conv => whnf) | (refine optK_of (watA (by omega)) ?_; conv => whnf) | (refine optK_of (watA' (by omega)) ?_; conv => whnf) | (refine optK_of (hDA (by omega)) ?_; conv => whnf) | (refine optK_of (hDA' (by omega)) ?_; conv => whnf) | (refine optK_of (gutA (by omega)) ?_; conv => whnf) | (refine optK_of (pipeA (by omega)) ?_; conv => whnf) | (refine optK_of (pipeB (by omega)) ?_; conv => whnf))
  first | refine ⟨rfl, _, rfl, ?_⟩ | refine ⟨_, rfl, ?_⟩
  skip
  have e : List.take (g.ps.length * 2) (List.drop 0 (pipesC g.ps)) = pipesC g.ps := by rw [List.drop_zero, take_full (by simp)]
  refine Eq.trans (b := one' [.agg (.v (.int .i8 g.n) :: .v (.int .i16 g.dp) :: (hD g.h ++ [.v (.int .u32 g.lv), .row true 2 (.v (.agg ⟨List.take (g.ps.length * 2) (List.drop 0 (pipesC g.ps))⟩)) g.ps.length]))]) ?_ rfl
  rw [e]; rfl
theorem eqInt8A17_same (h : Nat → Int) : Sat Try.prog 86 [.agg (hD h), .agg (hD h)] (.v (.bool true)) := by
  refine sat_of_wp hMix tOk Try.func86 rfl rfl Try.ntmps86 rfl rfl Try.results86 (by kernel_rfl) ?_
  conv => whnf
  repeat (first | (refine And.intro (by first | exact Nat.le_of_ble_eq_true rfl | exact rfl | decide | omega | (simp [splice]; done) | (constructor <;> omega) | (simp [splice]; omega)) ?_; conv => whnf) | (refine optK_of (watA (by omega)) ?_; conv => whnf) | (refine optK_of (watA' (by omega)) ?_; conv => whnf) | (refine optK_of (hDA (by omega)) ?_; conv => whnf) | (refine optK_of (hDA' (by omega)) ?_; conv => whnf) | (refine optK_of (gutA (by omega)) ?_; conv => whnf) | (refine optK_of (pipeA (by omega)) ?_; conv => whnf) | (refine optK_of (pipeB (by omega)) ?_; conv => whnf))
  refine loop_rule (α := Nat) (fun k => [(2, .ptr (2, 0, 0) 0), (3, .ptr (3, 0, 0) 0), (5, .v (.int .i64 k))]) (fun k => [((2, 0, 0), .agg (hD h)), ((3, 0, 0), .agg (hD h))]) (fun k => k ≤ 17) (fun k => 17 - k) (0) ?_ (sim_of (rn := [((2, 0, 0), (2, 0, 0)), ((3, 0, 0), (3, 0, 0))]) rfl ?_ ?_) ?_
  · first | omega | (dsimp only; omega) | ((repeat' apply And.intro) <;> omega) | (dsimp only; (repeat' apply And.intro) <;> omega) | trivial
  · ((repeat' (first | exact trivial | apply And.intro)) <;> (first | rfl | exact succ8 (by omega) | exact succ64 (by omega) | exact CapOk.fn (by assumption) _ _ | exact vintS (by omega) | exact vintS (by rw [w64 (by omega) (by omega)]; omega) | exact vintS (by rw [w8 (by omega) (by omega)]; omega) | exact vslcS (by omega) | exact vslcS (by simp)))
  · ((repeat' (first | exact trivial | apply And.intro)) <;> (refine ⟨_, _, rfl, rfl, ?_⟩; first | rfl | (rfl)))
  intro k hk
  conv => whnf
  repeat (first | (refine And.intro (by first | exact Nat.le_of_ble_eq_true rfl | exact rfl | decide | omega | (simp [splice]; done) | (constructor <;> omega) | (simp [splice]; omega)) ?_; conv => whnf) | (refine optK_of (watA (by omega)) ?_; conv => whnf) | (refine optK_of (watA' (by omega)) ?_; conv => whnf) | (refine optK_of (hDA (by omega)) ?_; conv => whnf) | (refine optK_of (hDA' (by omega)) ?_; conv => whnf) | (refine optK_of (gutA (by omega)) ?_; conv => whnf) | (refine optK_of (pipeA (by omega)) ?_; conv => whnf) | (refine optK_of (pipeB (by omega)) ?_; conv => whnf))
  cases h1 : decide ((k : Int) < 17)
  · conv => whnf
    repeat (first | (refine And.intro (by first | exact Nat.le_of_ble_eq_true rfl | exact rfl | decide | omega | (simp [splice]; done) | (constructor <;> omega) | (simp [splice]; omega)) ?_; conv => whnf) | (refine optK_of (watA (by omega)) ?_; conv => whnf) | (refine optK_of (watA' (by omega)) ?_; conv => whnf) | (refine optK_of (hDA (by omega)) ?_; conv => whnf) | (refine optK_of (hDA' (by omega)) ?_; conv => whnf) | (refine optK_of (gutA (by omega)) ?_; conv => whnf) | (refine optK_of (pipeA (by omega)) ?_; conv => whnf) | (refine optK_of (pipeB (by omega)) ?_; conv => whnf))
    first | refine ⟨rfl, _, rfl, ?_⟩ | refine ⟨_, rfl, ?_⟩
    rfl
  have hk17 : k < 17 := by simp at h1; omega
  conv => whnf
  repeat (first | (refine And.intro (by first | exact Nat.le_of_ble_eq_true rfl | exact rfl | decide | omega | (simp [splice]; done) | (constructor <;> omega) | (simp [splice]; omega)) ?_; conv => whnf) | (refine optK_of (watA (by omega)) ?_; conv => whnf) | (refine optK_of (watA' (by omega)) ?_; conv => whnf) | (refine optK_of (hDA (by omega)) ?_; conv => whnf) | (refine optK_of (hDA' (by omega)) ?_; conv => whnf) | (refine optK_of (gutA (by omega)) ?_; conv => whnf) | (refine optK_of (pipeA (by omega)) ?_; conv => whnf) | (refine optK_of (pipeB (by omega)) ?_; conv => whnf))
  rw [show (h k != h k) = false by simp]
  conv => whnf
  repeat (first | (refine And.intro (by first | exact Nat.le_of_ble_eq_true rfl | exact rfl | decide | omega | (simp [splice]; done) | (constructor <;> omega) | (simp [splice]; omega)) ?_; conv => whnf) | (refine optK_of (watA (by omega)) ?_; conv => whnf) | (refine optK_of (watA' (by omega)) ?_; conv => whnf) | (refine optK_of (hDA (by omega)) ?_; conv => whnf) | (refine optK_of (hDA' (by omega)) ?_; conv => whnf) | (refine optK_of (gutA (by omega)) ?_; conv => whnf) | (refine optK_of (pipeA (by omega)) ?_; conv => whnf) | (refine optK_of (pipeB (by omega)) ?_; conv => whnf))
  refine ⟨k + 1, ?_, ?_, sim_of (rn := [((2, 0, 0), (2, 0, 0)), ((3, 0, 0), (3, 0, 0))]) rfl ?_ ?_⟩
  · (dsimp only; omega)
  · first | omega | (dsimp only; omega) | ((repeat' apply And.intro) <;> omega) | (dsimp only; (repeat' apply And.intro) <;> omega) | trivial
  · ((repeat' (first | exact trivial | apply And.intro)) <;> (first | rfl | exact succ8 (by omega) | exact succ64 (by omega) | exact CapOk.fn (by assumption) _ _ | exact vintS (by omega) | exact vintS (by rw [w64 (by omega) (by omega)]; omega) | exact vintS (by rw [w8 (by omega) (by omega)]; omega) | exact vslcS (by omega) | exact vslcS (by simp)))
  · ((repeat' (first | exact trivial | apply And.intro)) <;> (refine ⟨_, _, rfl, rfl, ?_⟩; first | rfl | (rfl)))
theorem eqPipe_same (q : Int × Int) : Sat Try.prog 147 [pipeD q, pipeD q] (.v (.bool true)) := by
  refine sat_of_wp hMix tOk Try.func147 rfl rfl Try.ntmps147 rfl rfl Try.results147 (by kernel_rfl) ?_
  conv => whnf
  repeat (first | (refine And.intro (by first | exact Nat.le_of_ble_eq_true rfl | exact rfl | decide | omega | (simp [splice]; done) | (constructor <;> omega) | (simp [splice]; omega)) ?_; conv => whnf) | (refine optK_of (watA (by omega)) ?_; conv => whnf) | (refine optK_of (watA' (by omega)) ?_; conv => whnf) | (refine optK_of (hDA (by omega)) ?_; conv => whnf) | (refine optK_of (hDA' (by omega)) ?_; conv => whnf) | (refine optK_of (gutA (by omega)) ?_; conv => whnf) | (refine optK_of (pipeA (by omega)) ?_; conv => whnf) | (refine optK_of (pipeB (by omega)) ?_; conv => whnf))
  rw [show (q.1 != q.1) = false by simp]
  conv => whnf
  repeat (first | (refine And.intro (by first | exact Nat.le_of_ble_eq_true rfl | exact rfl | decide | omega | (simp [splice]; done) | (constructor <;> omega) | (simp [splice]; omega)) ?_; conv => whnf) | (refine optK_of (watA (by omega)) ?_; conv => whnf) | (refine optK_of (watA' (by omega)) ?_; conv => whnf) | (refine optK_of (hDA (by omega)) ?_; conv => whnf) | (refine optK_of (hDA' (by omega)) ?_; conv => whnf) | (refine optK_of (gutA (by omega)) ?_; conv => whnf) | (refine optK_of (pipeA (by omega)) ?_; conv => whnf) | (refine optK_of (pipeB (by omega)) ?_; conv => whnf))
  rw [show (q.2 != q.2) = false by simp]
  conv => whnf
  repeat (first | (refine And.intro (by first | exact Nat.le_of_ble_eq_true rfl | exact rfl | decide | omega | (simp [splice]; done) | (constructor <;> omega) | (simp [splice]; omega)) ?_; conv => whnf) | (refine optK_of (watA (by omega)) ?_; conv => whnf) | (refine optK_of (watA' (by omega)) ?_; conv => whnf) | (refine optK_of (hDA (by omega)) ?_; conv => whnf) | (refine optK_of (hDA' (by omega)) ?_; conv => whnf) | (refine optK_of (gutA (by omega)) ?_; conv => whnf) | (refine optK_of (pipeA (by omega)) ?_; conv => whnf) | (refine optK_of (pipeB (by omega)) ?_; conv => whnf))
  first | refine ⟨rfl, _, rfl, ?_⟩ | refine ⟨_, rfl, ?_⟩
  rfl
theorem eqPipeS_same (ps : List (Int × Int)) (hl : ps.length ≤ 1048576) (m m' : Bool) : Sat Try.prog 87 [pipesD m ps, pipesD m' ps] (.v (.bool true)) := by
  refine sat_of_wp hMix tOk Try.func87 rfl rfl Try.ntmps87 rfl rfl Try.results87 (by kernel_rfl) ?_
  conv => whnf
  repeat (first | (refine And.intro (by first | exact Nat.le_of_ble_eq_true rfl | exact rfl | decide | omega | (simp [splice]; done) | (constructor <;> omega) | (simp [splice]; omega)) ?_; conv => whnf) | (refine optK_of (watA (by omega)) ?_; conv => whnf) | (refine optK_of (watA' (by omega)) ?_; conv => whnf) | (refine optK_of (hDA (by omega)) ?_; conv => whnf) | (refine optK_of (hDA' (by omega)) ?_; conv => whnf) | (refine optK_of (gutA (by omega)) ?_; conv => whnf) | (refine optK_of (pipeA (by omega)) ?_; conv => whnf) | (refine optK_of (pipeB (by omega)) ?_; conv => whnf))
  rw [show ((ps.length : Int) != (ps.length : Int)) = false by simp]
  conv => whnf
  repeat (first | (refine And.intro (by first | exact Nat.le_of_ble_eq_true rfl | exact rfl | decide | omega | (simp [splice]; done) | (constructor <;> omega) | (simp [splice]; omega)) ?_; conv => whnf) | (refine optK_of (watA (by omega)) ?_; conv => whnf) | (refine optK_of (watA' (by omega)) ?_; conv => whnf) | (refine optK_of (hDA (by omega)) ?_; conv => whnf) | (refine optK_of (hDA' (by omega)) ?_; conv => whnf) | (refine optK_of (gutA (by omega)) ?_; conv => whnf) | (refine optK_of (pipeA (by omega)) ?_; conv => whnf) | (refine optK_of (pipeB (by omega)) ?_; conv => whnf))
  refine loop_rule (α := Nat) (fun i => [(0, pipesD m ps), (1, pipesD m' ps), (5, .v (.int .i64 i))]) (fun i => []) (fun i => i ≤ ps.length) (fun i => ps.length - i) (0) ?_ (sim_of (rn := []) rfl ?_ ?_) ?_
  · first | omega | (dsimp only; omega) | ((repeat' apply And.intro) <;> omega) | (dsimp only; (repeat' apply And.intro) <;> omega) | trivial
  · ((repeat' (first | exact trivial | apply And.intro)) <;> (first | rfl | exact succ8 (by omega) | exact succ64 (by omega) | exact CapOk.fn (by assumption) _ _ | exact vintS (by omega) | exact vintS (by rw [w64 (by omega) (by omega)]; omega) | exact vintS (by rw [w8 (by omega) (by omega)]; omega) | exact vslcS (by omega) | exact vslcS (by simp)))
  · ((repeat' (first | exact trivial | apply And.intro)) <;> (refine ⟨_, _, rfl, rfl, ?_⟩; first | rfl | (rfl)))
  intro i hi
  conv => whnf
  repeat (first | (refine And.intro (by first | exact Nat.le_of_ble_eq_true rfl | exact rfl | decide | omega | (simp [splice]; done) | (constructor <;> omega) | (simp [splice]; omega)) ?_; conv => whnf) | (refine optK_of (watA (by omega)) ?_; conv => whnf) | (refine optK_of (watA' (by omega)) ?_; conv => whnf) | (refine optK_of (hDA (by omega)) ?_; conv => whnf) | (refine optK_of (hDA' (by omega)) ?_; conv => whnf) | (refine optK_of (gutA (by omega)) ?_; conv => whnf) | (refine optK_of (pipeA (by omega)) ?_; conv => whnf) | (refine optK_of (pipeB (by omega)) ?_; conv => whnf))
  cases h : decide ((i : Int) < (ps.length : Int))
  · conv => whnf
    repeat (first | (refine And.intro (by first | exact Nat.le_of_ble_eq_true rfl | exact rfl | decide | omega | (simp [splice]; done) | (constructor <;> omega) | (simp [splice]; omega)) ?_; conv => whnf) | (refine optK_of (watA (by omega)) ?_; conv => whnf) | (refine optK_of (watA' (by omega)) ?_; conv => whnf) | (refine optK_of (hDA (by omega)) ?_; conv => whnf) | (refine optK_of (hDA' (by omega)) ?_; conv => whnf) | (refine optK_of (gutA (by omega)) ?_; conv => whnf) | (refine optK_of (pipeA (by omega)) ?_; conv => whnf) | (refine optK_of (pipeB (by omega)) ?_; conv => whnf))
    first | refine ⟨rfl, _, rfl, ?_⟩ | refine ⟨_, rfl, ?_⟩
    rfl
  have hin : i < ps.length := by simpa using h
  conv => whnf
  repeat (first | (refine And.intro (by first | exact Nat.le_of_ble_eq_true rfl | exact rfl | decide | omega | (simp [splice]; done) | (constructor <;> omega) | (simp [splice]; omega)) ?_; conv => whnf) | (refine optK_of (watA (by omega)) ?_; conv => whnf) | (refine optK_of (watA' (by omega)) ?_; conv => whnf) | (refine optK_of (hDA (by omega)) ?_; conv => whnf) | (refine optK_of (hDA' (by omega)) ?_; conv => whnf) | (refine optK_of (gutA (by omega)) ?_; conv => whnf) | (refine optK_of (pipeA (by omega)) ?_; conv => whnf) | (refine optK_of (pipeB (by omega)) ?_; conv => whnf))
  first | refine ⟨_, _, rfl, Sat.of_eq (eqPipe_same (px ps i)) (by repeat (first | rfl | exact vfull (by first | (simp [splice]; done) | (simp [splice]; omega)) | exact rfull (by first | (simp [splice]; done) | (simp [splice]; omega)) | exact vpipe (by simp; done) (by omega) | exact vsplice (by simp) (by simp) | refine ceq ?_ ?_ | refine Eq.trans (vsplice (by first | (simp; done) | (simp; omega)) (by first | (simp; done) | (simp; omega))) ?_)), ?_⟩ | refine .inl ⟨_, _, rfl, Sat.of_eq (eqPipe_same (px ps i)) (by repeat (first | rfl | exact vfull (by first | (simp [splice]; done) | (simp [splice]; omega)) | exact rfull (by first | (simp [splice]; done) | (simp [splice]; omega)) | exact vpipe (by simp; done) (by omega) | exact vsplice (by simp) (by simp) | refine ceq ?_ ?_ | refine Eq.trans (vsplice (by first | (simp; done) | (simp; omega)) (by first | (simp; done) | (simp; omega))) ?_)), ?_⟩
  conv => whnf
  repeat (first | (refine And.intro (by first | exact Nat.le_of_ble_eq_true rfl | exact rfl | decide | omega | (simp [splice]; done) | (constructor <;> omega) | (simp [splice]; omega)) ?_; conv => whnf) | (refine optK_of (watA (by omega)) ?_; conv => whnf) | (refine optK_of (watA' (by omega)) ?_; conv => whnf) | (refine optK_of (hDA (by omega)) ?_; conv => whnf) | (refine optK_of (hDA' (by omega)) ?_; conv => whnf) | (refine optK_of (gutA (by omega)) ?_; conv => whnf) | (refine optK_of (pipeA (by omega)) ?_; conv => whnf) | (refine optK_of (pipeB (by omega)) ?_; conv => whnf))
  refine ⟨i + 1, ?_, ?_, sim_of (rn := []) rfl ?_ ?_⟩
  · (dsimp only; omega)
  · first | omega | (dsimp only; omega) | ((repeat' apply And.intro) <;> omega) | (dsimp only; (repeat' apply And.intro) <;> omega) | trivial
  · ((repeat' (first | exact trivial | apply And.intro)) <;> (first | rfl | exact succ8 (by omega) | exact succ64 (by omega) | exact CapOk.fn (by assumption) _ _ | exact vintS (by omega) | exact vintS (by rw [w64 (by omega) (by omega)]; omega) | exact vintS (by rw [w8 (by omega) (by omega)]; omega) | exact vslcS (by omega) | exact vslcS (by simp)))
  · ((repeat' (first | exact trivial | apply And.intro)) <;> (refine ⟨_, _, rfl, rfl, ?_⟩; first | rfl | (rfl)))
theorem eqGutter_same (g : Gut) (hl : g.ps.length ≤ 1048576) : Sat Try.prog 31 [gutD false g, gutD false g] (.v (.bool true)) := by
  refine sat_of_wp hMix tOk Try.func31 rfl rfl Try.ntmps31 rfl rfl Try.results31 (by kernel_rfl) ?_
  conv => whnf
  repeat (first | (refine And.intro (by first | exact Nat.le_of_ble_eq_true rfl | exact rfl | decide | omega | (simp [splice]; done) | (constructor <;> omega) | (simp [splice]; omega)) ?_; conv => whnf) | (refine optK_of (watA (by omega)) ?_; conv => whnf) | (refine optK_of (watA' (by omega)) ?_; conv => whnf) | (refine optK_of (hDA (by omega)) ?_; conv => whnf) | (refine optK_of (hDA' (by omega)) ?_; conv => whnf) | (refine optK_of (gutA (by omega)) ?_; conv => whnf) | (refine optK_of (pipeA (by omega)) ?_; conv => whnf) | (refine optK_of (pipeB (by omega)) ?_; conv => whnf))
  rw [show (g.n != g.n) = false by simp]
  conv => whnf
  repeat (first | (refine And.intro (by first | exact Nat.le_of_ble_eq_true rfl | exact rfl | decide | omega | (simp [splice]; done) | (constructor <;> omega) | (simp [splice]; omega)) ?_; conv => whnf) | (refine optK_of (watA (by omega)) ?_; conv => whnf) | (refine optK_of (watA' (by omega)) ?_; conv => whnf) | (refine optK_of (hDA (by omega)) ?_; conv => whnf) | (refine optK_of (hDA' (by omega)) ?_; conv => whnf) | (refine optK_of (gutA (by omega)) ?_; conv => whnf) | (refine optK_of (pipeA (by omega)) ?_; conv => whnf) | (refine optK_of (pipeB (by omega)) ?_; conv => whnf))
  rw [show (g.dp != g.dp) = false by simp]
  conv => whnf
  repeat (first | (refine And.intro (by first | exact Nat.le_of_ble_eq_true rfl | exact rfl | decide | omega | (simp [splice]; done) | (constructor <;> omega) | (simp [splice]; omega)) ?_; conv => whnf) | (refine optK_of (watA (by omega)) ?_; conv => whnf) | (refine optK_of (watA' (by omega)) ?_; conv => whnf) | (refine optK_of (hDA (by omega)) ?_; conv => whnf) | (refine optK_of (hDA' (by omega)) ?_; conv => whnf) | (refine optK_of (gutA (by omega)) ?_; conv => whnf) | (refine optK_of (pipeA (by omega)) ?_; conv => whnf) | (refine optK_of (pipeB (by omega)) ?_; conv => whnf))
  first | refine ⟨_, _, rfl, Sat.of_eq (eqInt8A17_same g.h) (by repeat (first | rfl | exact vfull (by first | (simp [splice]; done) | (simp [splice]; omega)) | exact rfull (by first | (simp [splice]; done) | (simp [splice]; omega)) | exact vpipe (by simp; done) (by omega) | exact vsplice (by simp) (by simp) | refine ceq ?_ ?_ | refine Eq.trans (vsplice (by first | (simp; done) | (simp; omega)) (by first | (simp; done) | (simp; omega))) ?_)), ?_⟩ | refine .inl ⟨_, _, rfl, Sat.of_eq (eqInt8A17_same g.h) (by repeat (first | rfl | exact vfull (by first | (simp [splice]; done) | (simp [splice]; omega)) | exact rfull (by first | (simp [splice]; done) | (simp [splice]; omega)) | exact vpipe (by simp; done) (by omega) | exact vsplice (by simp) (by simp) | refine ceq ?_ ?_ | refine Eq.trans (vsplice (by first | (simp; done) | (simp; omega)) (by first | (simp; done) | (simp; omega))) ?_)), ?_⟩
  conv => whnf
  repeat (first | (refine And.intro (by first | exact Nat.le_of_ble_eq_true rfl | exact rfl | decide | omega | (simp [splice]; done) | (constructor <;> omega) | (simp [splice]; omega)) ?_; conv => whnf) | (refine optK_of (watA (by omega)) ?_; conv => whnf) | (refine optK_of (watA' (by omega)) ?_; conv => whnf) | (refine optK_of (hDA (by omega)) ?_; conv => whnf) | (refine optK_of (hDA' (by omega)) ?_; conv => whnf) | (refine optK_of (gutA (by omega)) ?_; conv => whnf) | (refine optK_of (pipeA (by omega)) ?_; conv => whnf) | (refine optK_of (pipeB (by omega)) ?_; conv => whnf))
  rw [show (g.lv != g.lv) = false by simp]
  conv => whnf
  repeat (first | (refine And.intro (by first | exact Nat.le_of_ble_eq_true rfl | exact rfl | decide | omega | (simp [splice]; done) | (constructor <;> omega) | (simp [splice]; omega)) ?_; conv => whnf) | (refine optK_of (watA (by omega)) ?_; conv => whnf) | (refine optK_of (watA' (by omega)) ?_; conv => whnf) | (refine optK_of (hDA (by omega)) ?_; conv => whnf) | (refine optK_of (hDA' (by omega)) ?_; conv => whnf) | (refine optK_of (gutA (by omega)) ?_; conv => whnf) | (refine optK_of (pipeA (by omega)) ?_; conv => whnf) | (refine optK_of (pipeB (by omega)) ?_; conv => whnf))
  first | refine ⟨_, _, rfl, Sat.of_eq (eqPipeS_same g.ps hl false false) (by repeat (first | rfl | exact vfull (by first | (simp [splice]; done) | (simp [splice]; omega)) | exact rfull (by first | (simp [splice]; done) | (simp [splice]; omega)) | exact vpipe (by simp; done) (by omega) | exact vsplice (by simp) (by simp) | refine ceq ?_ ?_ | refine Eq.trans (vsplice (by first | (simp; done) | (simp; omega)) (by first | (simp; done) | (simp; omega))) ?_)), ?_⟩ | refine .inl ⟨_, _, rfl, Sat.of_eq (eqPipeS_same g.ps hl false false) (by repeat (first | rfl | exact vfull (by first | (simp [splice]; done) | (simp [splice]; omega)) | exact rfull (by first | (simp [splice]; done) | (simp [splice]; omega)) | exact vpipe (by simp; done) (by omega) | exact vsplice (by simp) (by simp) | refine ceq ?_ ?_ | refine Eq.trans (vsplice (by first | (simp; done) | (simp; omega)) (by first | (simp; done) | (simp; omega))) ?_)), ?_⟩
  conv => whnf
  repeat (first | (refine And.intro (by first | exact Nat.le_of_ble_eq_true rfl | exact rfl | decide | omega | (simp [splice]; done) | (constructor <;> omega) | (simp [splice]; omega)) ?_; conv => whnf) | (refine optK_of (watA (by omega)) ?_; conv => whnf) | (refine optK_of (watA' (by omega)) ?_; conv => whnf) | (refine optK_of (hDA (by omega)) ?_; conv => whnf) | (refine optK_of (hDA' (by omega)) ?_; conv => whnf) | (refine optK_of (gutA (by omega)) ?_; conv => whnf) | (refine optK_of (pipeA (by omega)) ?_; conv => whnf) | (refine optK_of (pipeB (by omega)) ?_; conv => whnf))
  first | refine ⟨rfl, _, rfl, ?_⟩ | refine ⟨_, rfl, ?_⟩
  rfl
end Go.Proofs.Ytndlknhakdadjaa
