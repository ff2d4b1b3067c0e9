import Derived.Test.YtdbhfobnmlogeaaDoorVT
import Derived.Test.YtdbhfobnmlogeaaDoorW6
import Derived.DeepKeys
import Derived.Test.YtdbhfobnmlogeaaDoorShelf
set_option linter.unusedVariables false
set_option linter.unusedSimpArgs false
/- Plain words: tables of cells, roofs, places. -/
set_option linter.unusedVariables false
set_option linter.unusedSimpArgs false
namespace Go.V

/-- n cells by a rule. -/
@[irreducible] def tab (n : Nat) (f : Nat → Value) : List Value := (List.range n).map f
theorem tab_def (n : Nat) (f : Nat → Value) : tab n f = (List.range n).map f := by unfold tab; rfl
@[simp] theorem tab_length (n : Nat) (f : Nat → Value) : (tab n f).length = n := by rw [tab_def]; simp
theorem nth_tab {n : Nat} {f : Nat → Value} {i : Nat} (h : i < n) : nth (tab n f) i = some (f i) := by
  rw [nth_eq, tab_def]; simp [h]
theorem tab_get {n : Nat} {f : Nat → Value} {i : Nat} (h : i < n) : (tab n f)[i]? = some (f i) := by
  rw [tab_def]; simp [h]
theorem tab_none {n : Nat} {f : Nat → Value} {i : Nat} (h : n ≤ i) : (tab n f)[i]? = none := by
  rw [List.getElem?_eq_none_iff, tab_length]; exact h
theorem tab_congr {n : Nat} {f g : Nat → Value} (h : ∀ i, i < n → f i = g i) : tab n f = tab n g := by
  rw [tab_def, tab_def]
  apply List.map_congr_left
  intro i hi
  exact h i (by simpa using hi)
theorem tab_sub {n : Nat} {f : Nat → Value} {o m : Nat} (h : o + m ≤ n) : ((tab n f).drop o).take m = tab m fun i => f (o + i) := by
  apply List.ext_getElem?
  intro i
  rw [List.getElem?_take]
  by_cases hi : i < m
  · rw [if_pos hi, List.getElem?_drop, tab_get (by omega), tab_get hi]
  · rw [if_neg hi, tab_none (by omega)]
theorem tab_set {n : Nat} {f : Nat → Value} {i : Nat} {x : Value} : (tab n f).set i x = tab n fun j => if j = i then x else f j := by
  apply List.ext_getElem?
  intro j
  rw [List.getElem?_set]
  by_cases hj : j < n
  · rw [tab_get hj, tab_get hj]
    by_cases h : i = j
    · subst h; simp [hj]
    · simp [h, Ne.symm h]
  · rw [tab_none (by omega), tab_none (by omega)]
    simp only [tab_length]
    split
    · rw [if_neg (by omega)]
    · rfl
theorem w64 {n : Int} (h1 : -9223372036854775808 ≤ n) (h2 : n ≤ 9223372036854775807) : IntKind.i64.wrap n = n := by
  simp only [IntKind.wrap, IntKind.bits, IntKind.signed, Bool.true_and]
  split <;> rename_i h <;> simp at h <;> omega
theorem w8 {n : Int} (h1 : -128 ≤ n) (h2 : n ≤ 127) : IntKind.i8.wrap n = n := by
  simp only [IntKind.wrap, IntKind.bits, IntKind.signed, Bool.true_and]
  split <;> rename_i h <;> simp at h <;> omega
theorem wu8 {n : Int} (h1 : 0 ≤ n) (h2 : n ≤ 255) : IntKind.u8.wrap n = n := by
  simp [IntKind.wrap, IntKind.bits, IntKind.signed]
  omega
theorem wu64 {n : Int} (h1 : 0 ≤ n) (h2 : n ≤ 18446744073709551615) : IntKind.u64.wrap n = n := by
  simp [IntKind.wrap, IntKind.bits, IntKind.signed]
  omega

abbrev i64 (n : Int) : D := .v (.int .i64 n)

structure Roof where
  w : Int
  h : Int
  s : Int
  t : Nat → Nat → Int

structure Roof.In (r : Roof) : Prop where
  w : -128 ≤ r.w ∧ r.w ≤ 127
  h : -128 ≤ r.h ∧ r.h ≤ 127
  s : 0 ≤ r.s ∧ r.s ≤ 255
  t : ∀ c k, 0 ≤ r.t c k ∧ r.t c k ≤ 255

def grid (t : Nat → Nat → Int) : List Value := tab 64 fun i => .int .u8 (t (i / 8) (i % 8))
def roofC (r : Roof) : List Value := .int .i8 r.w :: .int .i8 r.h :: .int .u8 r.s :: grid r.t
theorem grid_get {t : Nat → Nat → Int} {c k : Nat} (hc : c < 8) (hk : k < 8) : nth (grid t) (c * 8 + k) = some (.int .u8 (t c k)) := by
  unfold grid
  rw [nth_tab (by omega)]
  have h1 : (c * 8 + k) / 8 = c := by omega
  have h2 : (c * 8 + k) % 8 = k := by omega
  rw [h1, h2]
theorem roof_get {r : Roof} {i c k : Nat} (hi : i = 3 + c * 8 + k) (hc : c < 8) (hk : k < 8) : nth (roofC r) i = some (.int .u8 (r.t c k)) := by
  subst hi
  rw [show 3 + c * 8 + k = (c * 8 + k) + 3 by omega]
  exact grid_get hc hk

end Go.V
/- Contracts: bounds, kinds, places. -/
set_option linter.unusedVariables false
set_option linter.unusedSimpArgs false
namespace Go.Proofs.YtdbhfobnmlogeaaDoor
open Go.V

theorem l00In_sat (n lo hi : Int) : Sat Tryd.prog 88 [.v (.int .i64 n), .v (.int .i64 lo), .v (.int .i64 hi)] (.v (.bool (decide (n ≥ lo) && decide (n ≤ hi)))) := by
  refine sat_of_wp hMix tOk Tryd.func88 rfl rfl Tryd.ntmps88 rfl rfl Tryd.results88 (by kernel_rfl) ?_
  conv => whnf
  cases h1 : decide (n ≥ lo)
  · exact ⟨rfl, _, rfl, rfl⟩
  · conv => whnf
    cases h2 : decide (n ≤ hi) <;> exact ⟨rfl, _, rfl, rfl⟩

theorem within8_sat (n lo hi : Int) : Sat Tryd.prog 115 [.v (.int .i8 n), .v (.int .i8 lo), .v (.int .i8 hi)] (.v (.bool (decide (lo ≤ n) && decide (n ≤ hi)))) := by
  refine sat_of_wp hMix tOk Tryd.func115 rfl rfl Tryd.ntmps115 rfl rfl Tryd.results115 (by kernel_rfl) ?_
  conv => whnf
  cases h1 : decide (lo ≤ n)
  · exact ⟨rfl, _, rfl, rfl⟩
  · conv => whnf
    cases h2 : decide (n ≤ hi) <;> exact ⟨rfl, _, rfl, rfl⟩

end Go.Proofs.YtdbhfobnmlogeaaDoor
/- Contracts: valid roofs. -/
set_option linter.unusedVariables false
set_option linter.unusedSimpArgs false
namespace Go.V
end Go.V
namespace Go.Proofs.YtdbhfobnmlogeaaDoor
open Go.V

end Go.Proofs.YtdbhfobnmlogeaaDoor
/- Contracts: the laws' own copies of rows, tables, roofs. -/
set_option linter.unusedVariables false
set_option linter.unusedSimpArgs false
namespace Go.V
def row8 (f : Nat → Int) : List Value := tab 8 fun k => .int .u8 (f k)
def row8D (f : Nat → Int) : D := .v (.agg ⟨row8 f⟩)
def gridD (t : Nat → Nat → Int) : D := .v (.agg ⟨grid t⟩)
@[simp] theorem row8_len (f : Nat → Int) : (row8 f).length = 8 := by unfold row8; simp
@[simp] theorem grid_len (t : Nat → Nat → Int) : (grid t).length = 64 := by unfold grid; simp
/-- The cells of a table as one row. -/
def flat (t : Nat → Nat → Int) (i : Nat) : Int := t (i / 8) (i % 8)
theorem grid_row {t : Nat → Nat → Int} {c o : Nat} (ho : o = c * 8) (hc : c < 8) : ((grid t).drop o).take 8 = row8 (t c) := by
  subst ho
  unfold grid
  rw [tab_sub (by omega)]
  apply tab_congr
  intro i hi
  rw [show (c * 8 + i) / 8 = c by omega, show (c * 8 + i) % 8 = i by omega]
theorem splice_all {α : Type} {xs ys : List α} (h : xs.length = ys.length) : splice xs 0 ys = ys := by
  unfold splice; simp [← h]
end Go.V
namespace Go.Proofs.YtdbhfobnmlogeaaDoor
open Go.V

end Go.Proofs.YtdbhfobnmlogeaaDoor
/- Contracts: valid roofs and ages, both sides. -/
set_option linter.unusedVariables false
set_option linter.unusedSimpArgs false
namespace Go.V
def all8 (p : Nat → Nat → Bool) : Bool := (List.range 8).all fun c => (List.range 8).all fun k => p c k
theorem all8_true {p : Nat → Nat → Bool} (h : ∀ c, c < 8 → ∀ k, k < 8 → p c k = true) : all8 p = true := by
  simp only [all8, List.all_eq_true, List.mem_range]
  exact h
/-- Rows and cells that have been looked at. -/
def Upto (p : Nat → Nat → Bool) (c : Nat) : Prop := ∀ c', c' < c → ∀ k, k < 8 → p c' k = true
def UptoK (p : Nat → Bool) (k : Nat) : Prop := ∀ k', k' < k → p k' = true
theorem Upto.zero (p : Nat → Nat → Bool) : Upto p 0 := fun c' h => by omega
theorem UptoK.zero (p : Nat → Bool) : UptoK p 0 := fun c' h => by omega
theorem Upto.next {p : Nat → Nat → Bool} {c : Nat} (h : Upto p c) (hr : UptoK (p c) 8) : Upto p (c + 1) := by
  intro c' hc k hk
  by_cases e : c' = c
  · subst e; exact hr k hk
  · exact h c' (by omega) k hk
theorem UptoK.next {p : Nat → Bool} {k : Nat} (h : UptoK p k) (hr : p k = true) : UptoK p (k + 1) := by
  intro k' hk
  by_cases e : k' = k
  · subst e; exact hr
  · exact h k' (by omega)
theorem Upto.all {p : Nat → Nat → Bool} (h : Upto p 8) : all8 p = true := all8_true h
theorem succ64 {n : Nat} (h : n < 4294967296) : some (D.v (Value.int .i64 ((n + 1 : Nat) : Int))) = some (D.v (.int .i64 (IntKind.i64.wrap (n + 1)))) := by
  congr 1; exact vint (by rw [w64 (by omega) (by omega)]; omega)
theorem succ8 {n : Nat} (h : n < 127) : some (D.v (Value.int .i8 ((n + 1 : Nat) : Int))) = some (D.v (.int .i8 (IntKind.i8.wrap (n + 1)))) := by
  congr 1; exact vint (by rw [w8 (by omega) (by omega)]; omega)
end Go.V
namespace Go.Proofs.YtdbhfobnmlogeaaDoor
open Go.V

end Go.Proofs.YtdbhfobnmlogeaaDoor
/- Contracts: valid ages, both sides. -/
set_option linter.unusedVariables false
set_option linter.unusedSimpArgs false
namespace Go.V
theorem grid_at {t : Nat → Nat → Int} {c k o : Nat} (ho : o = c * 8 + k) (hc : c < 8) (hk : k < 8) : nth (grid t) o = some (.int .u8 (t c k)) := by
  subst ho; exact grid_get hc hk
end Go.V
namespace Go.Proofs.YtdbhfobnmlogeaaDoor
open Go.V

end Go.Proofs.YtdbhfobnmlogeaaDoor
/- Contracts: valid colours, both sides. -/
set_option linter.unusedVariables false
set_option linter.unusedSimpArgs false
namespace Go.V
theorem UptoK.all {p : Nat → Bool} (h : UptoK p 8) : (List.range 8).all p = true := by
  simp only [List.all_eq_true, List.mem_range]
  exact h
end Go.V
namespace Go.Proofs.YtdbhfobnmlogeaaDoor
open Go.V

end Go.Proofs.YtdbhfobnmlogeaaDoor
/- Contracts: mirrored colours, both sides. -/
set_option linter.unusedVariables false
set_option linter.unusedSimpArgs false
namespace Go.V
def orU8 (a b : Int) : Int := IntKind.u8.wrap (BitVec.ofInt IntKind.u8.bits a ||| BitVec.ofInt IntKind.u8.bits b).toNat
end Go.V
namespace Go.Proofs.YtdbhfobnmlogeaaDoor
open Go.V
end Go.Proofs.YtdbhfobnmlogeaaDoor
/- Contracts: mirrored colours, the program's side, and the law. -/
set_option linter.unusedVariables false
set_option linter.unusedSimpArgs false
namespace Go.V
end Go.V
namespace Go.Proofs.YtdbhfobnmlogeaaDoor
open Go.V
end Go.Proofs.YtdbhfobnmlogeaaDoor
/- Contracts: the text of colours, both sides, and the law. -/
set_option linter.unusedVariables false
set_option linter.unusedSimpArgs false
namespace Go.V
end Go.V
namespace Go.Proofs.YtdbhfobnmlogeaaDoor
open Go.V
end Go.Proofs.YtdbhfobnmlogeaaDoor
/- Contracts: how many tiles are red, both sides, and the law. -/
set_option linter.unusedVariables false
set_option linter.unusedSimpArgs false
namespace Go.V
end Go.V
namespace Go.Proofs.YtdbhfobnmlogeaaDoor
open Go.V
end Go.Proofs.YtdbhfobnmlogeaaDoor
/- Contracts: by how many tiles colours differ, both sides, and the law. -/
set_option linter.unusedVariables false
set_option linter.unusedSimpArgs false
namespace Go.V
end Go.V
namespace Go.Proofs.YtdbhfobnmlogeaaDoor
open Go.V
end Go.Proofs.YtdbhfobnmlogeaaDoor
/- Contracts: lists of places. -/
set_option linter.unusedVariables false
set_option linter.unusedSimpArgs false
namespace Go.V
abbrev Pl := Nat × Nat
def placesC : List Pl → List Value
  | [] => []
  | q :: r => .int .i8 q.1 :: .int .i8 q.2 :: placesC r
@[simp] theorem placesC_len (a : List Pl) : (placesC a).length = a.length * 2 := by
  induction a with
  | nil => rfl
  | cons q a ih => simp only [placesC, List.length_cons, ih]; omega
def rowP (c k : Nat) : List Pl := (List.range k).map fun j => (c, j)
def gridP (w c : Nat) : List Pl := (List.range c).flatMap fun i => rowP i w
theorem gridP_next (w c : Nat) : gridP w (c + 1) = gridP w c ++ rowP c w := by
  unfold gridP; rw [List.range_succ, List.flatMap_append]; simp
@[simp] theorem rowP_zero (c : Nat) : rowP c 0 = [] := rfl
@[simp] theorem gridP_zero (w : Nat) : gridP w 0 = [] := rfl
@[simp] theorem rowP_len (c k : Nat) : (rowP c k).length = k := by unfold rowP; simp
theorem gridP_len (w : Nat) : ∀ c, (gridP w c).length = c * w
  | 0 => by simp
  | c + 1 => by rw [gridP_next, List.length_append, gridP_len w c, rowP_len, Nat.succ_mul]
/-- The places seen so far that are as told. -/
def pick (p : Nat → Nat → Bool) (w c k : Nat) : List Pl := (gridP w c ++ rowP c k).filter fun q => p q.1 q.2
/-- All places of a roof that are as told, in order. -/
def allP (r : Roof) (p : Nat → Nat → Bool) : List Pl := pick p r.w.toNat r.h.toNat 0
end Go.V
namespace Go.Proofs.YtdbhfobnmlogeaaDoor
open Go.V
end Go.Proofs.YtdbhfobnmlogeaaDoor
/- Contracts: valid words. -/
set_option linter.unusedVariables false
set_option linter.unusedSimpArgs false
namespace Go.V
theorem byteVals_len (b : ByteArray) : (byteVals b).length = b.size := by unfold byteVals; simp
end Go.V
namespace Go.Proofs.YtdbhfobnmlogeaaDoor
open Go.V

section
variable {g : Nat} {p : Int → Bool}
end

end Go.Proofs.YtdbhfobnmlogeaaDoor
/- Contracts: patterns of words, both sides, and the law. -/
set_option linter.unusedVariables false
set_option linter.unusedSimpArgs false
namespace Go.V
def patB (b : ByteArray) (s c k : Nat) : Bool := byteAt b ((k + s * c) % b.size) == 114
def accS (b : ByteArray) (s : Nat) (f : Nat → Int) (q : Pl) : Nat → Int := fun j => if j = q.1 ∧ patB b s q.1 q.2 = true then orU8 (f j) (IntKind.u8.wrap (1 * 2 ^ (min q.2 IntKind.u8.bits))) else f j
def acc (b : ByteArray) (s : Nat) (ps : List Pl) : Nat → Int := ps.foldl (accS b s) fun _ => 0
end Go.V
namespace Go.Proofs.YtdbhfobnmlogeaaDoor
open Go.V
theorem within64_sat (n lo hi : Int) : Sat Tryd.prog 99 [.v (.int .i64 n), .v (.int .i64 lo), .v (.int .i64 hi)] (.v (.bool (decide (lo ≤ n) && decide (n ≤ hi)))) := by
  refine sat_of_wp hMix tOk Tryd.func99 rfl rfl Tryd.ntmps99 rfl rfl Tryd.results99 (by kernel_rfl) ?_
  conv => whnf
  cases h1 : decide (lo ≤ n)
  · exact ⟨rfl, _, rfl, rfl⟩
  · conv => whnf
    cases h2 : decide (n ≤ hi) <;> exact ⟨rfl, _, rfl, rfl⟩

end Go.Proofs.YtdbhfobnmlogeaaDoor
/- Contracts: codes of ages, the age of a tile. -/
set_option linter.unusedVariables false
set_option linter.unusedSimpArgs false
namespace Go.V
end Go.V
namespace Go.Proofs.YtdbhfobnmlogeaaDoor
open Go.V
end Go.Proofs.YtdbhfobnmlogeaaDoor
/- Contracts: the oldest tile, both sides. -/
set_option linter.unusedVariables false
set_option linter.unusedSimpArgs false
namespace Go.V
def nthP (ps : List Pl) (i : Nat) : Pl := ps.getD i (0, 0)
theorem nthP_some {ps : List Pl} {i : Nat} (h : i < ps.length) : ps[i]? = some (nthP ps i) := by
  unfold nthP; rw [List.getD_eq_getElem?_getD]; simp [h]
def bestL (a : Nat → Nat → Int) (ps : List Pl) : Nat → Pl
  | 0 => nthP ps 0
  | i + 1 => if a (nthP ps (i + 1)).1 (nthP ps (i + 1)).2 > a (bestL a ps i).1 (bestL a ps i).2 then nthP ps (i + 1) else bestL a ps i
end Go.V
namespace Go.Proofs.YtdbhfobnmlogeaaDoor
open Go.V
end Go.Proofs.YtdbhfobnmlogeaaDoor
/- Plain words for use: lengths, looks into grids and lists. -/
set_option linter.unusedVariables false
set_option linter.unusedSimpArgs false
namespace Go.V
@[simp] theorem roofC_len (r : Roof) : (roofC r).length = 67 := by simp [roofC]
theorem gridN {t : Nat → Nat → Int} {c k : Nat} (hc : c < 8) (hk : k < 8) : nth (grid t) (0 + (c : Int).toNat * 8 + (k : Int).toNat * 1) = some (.int .u8 (t c k)) := grid_at (by simp) hc hk
theorem roofN {r : Roof} {c k : Nat} (hc : c < 8) (hk : k < 8) : nth (roofC r) (0 + 3 + (c : Int).toNat * 8 + (k : Int).toNat * 1) = some (.int .u8 (r.t c k)) := roof_get (by simp) hc hk
theorem vrow {t : Nat → Nat → Int} {c o : Nat} (ho : o = c * 8) (hc : c < 8) : D.v (.agg ⟨((grid t).drop o).take 8⟩) = row8D (t c) := by
  rw [grid_row ho hc]; rfl
theorem vtiles {r : Roof} {o : Nat} (ho : o = 3) : D.v (.agg ⟨((roofC r).drop o).take 64⟩) = gridD r.t := by
  subst ho
  unfold gridD
  simp [roofC, take_full]
/-- A cell of a grid replaced. -/
def putG (t : Nat → Nat → Int) (c k : Nat) (x : Int) : Nat → Nat → Int := fun c' k' => if c' = c ∧ k' = k then x else t c' k'
def putR (r : Roof) (c k : Nat) (x : Int) : Roof := { r with t := putG r.t c k x }
theorem vsplice {xs ys : List Value} {n : Nat} (h : xs.length = ys.length) (h2 : ys.length ≤ n) : D.v (.agg ⟨((splice xs 0 ys).drop 0).take n⟩) = D.v (.agg ⟨ys⟩) := by
  rw [splice_all h, List.drop_zero, take_full h2]
theorem cset {l l' : List Value} (h : l = l') : some (D.v (.agg ⟨l⟩)) = some (D.v (.agg ⟨l'⟩)) := by rw [h]
end Go.V
/- Plain words: lists of whole numbers. -/
set_option linter.unusedVariables false
set_option linter.unusedSimpArgs false
namespace Go.V
def I64 (x : Int) : Prop := -9223372036854775808 ≤ x ∧ x ≤ 9223372036854775807
def ix (xs : List Int) (i : Nat) : Int := xs.getD i 0
@[irreducible] def intsC (xs : List Int) : List Value := xs.map (Value.int .i64)
theorem intsC_def (xs : List Int) : intsC xs = xs.map (Value.int .i64) := by unfold intsC; rfl
@[simp] theorem intsC_len (xs : List Int) : (intsC xs).length = xs.length := by simp [intsC_def]
theorem intsC_append (xs ys : List Int) : intsC (xs ++ ys) = intsC xs ++ intsC ys := by simp [intsC_def]
theorem intsC_one (x : Int) : intsC [x] = [.int .i64 x] := by simp [intsC_def]
theorem intsC_nil : intsC [] = [] := by simp [intsC_def]
def intsD (m : Bool) (xs : List Int) : D := .row m 1 (.v (.agg ⟨intsC xs⟩)) xs.length
theorem intN {xs : List Int} {i o : Nat} (h : i < xs.length) (ho : o = i) : nth (intsC xs) o = some (.int .i64 (ix xs i)) := by
  subst ho
  rw [nth_eq, intsC_def, List.getElem?_map]
  unfold ix
  rw [List.getD_eq_getElem?_getD]
  simp [h]
theorem intA {xs : List Int} {i : Nat} (h : i < xs.length) : nth (intsC xs) (0 + (i : Int).toNat * 1) = some (.int .i64 (ix xs i)) := intN h (by simp)
theorem intA' {xs : List Int} {i : Nat} (h : i < xs.length) : nth (intsC xs) ((i : Int).toNat * 1) = some (.int .i64 (ix xs i)) := intN h (by simp)
def marksI (k : Int) (n : Nat) : List Int := (List.range n).map fun j => k + (j : Nat)
@[simp] theorem marksI_len (k : Int) (n : Nat) : (marksI k n).length = n := by simp [marksI]
end Go.V
/- Plain words: values of arrays and structs of whole numbers compared. -/
set_option linter.unusedVariables false
set_option linter.unusedSimpArgs false
namespace Go.V
section
variable {P : Program}
end
end Go.V
/- Plain words: lists of strings. -/
set_option linter.unusedVariables false
set_option linter.unusedSimpArgs false
namespace Go.V
def sx (ws : List ByteArray) (i : Nat) : ByteArray := ws.getD i ⟨#[]⟩
structure StrsIn (ws : List ByteArray) : Prop where
  len : ws.length ≤ 9223372036854775807
  sz : ∀ i, i < ws.length → (sx ws i).size ≤ 9223372036854775807
@[irreducible] def strsC (ws : List ByteArray) : List Value := ws.map Value.string
theorem strsC_def (ws : List ByteArray) : strsC ws = ws.map Value.string := by unfold strsC; rfl
@[simp] theorem strsC_len (ws : List ByteArray) : (strsC ws).length = ws.length := by simp [strsC_def]
def strsD (m : Bool) (ws : List ByteArray) : D := .row m 1 (.v (.agg ⟨strsC ws⟩)) ws.length
theorem sx_mem {ws : List ByteArray} {i : Nat} (h : i < ws.length) : sx ws i ∈ ws := by
  unfold sx
  rw [List.getD_eq_getElem?_getD]
  simp [h]
end Go.V
/- Contracts of Go's library, off the kit's shelf, told in this calculus: numbers as texts, texts joined. -/
set_option linter.unusedVariables false
set_option linter.unusedSimpArgs false
namespace Go.V
theorem resRep_v {w : World} {B : Nat} {x : Value} (hx : Flat x = true) : ResRep w B (.v x) x noLoc := by
  refine ⟨rfl, ?_, ?_, ?_, ?_, ?_⟩
  · show Rep w B noLoc (.v x) x
    simp [Rep, hx]
  · intro id b n h; simp [noLoc] at h
  · intro id l h; simp [noLoc] at h
  · intro id id' b n n' h; simp [noLoc] at h
  · intro j c h
    cases j with
    | zero => simp [tops, impC, rowC] at h
    | succ j => simp [tops, impC] at h
/-- A contract that hands back a plain value. -/
theorem Sat.of_calls {P : Program} {g : FuncId} {args : List D} {x : Value} (hx : Flat x = true) (hfn : ∃ fn c, P.funcs[g]? = some fn ∧ fn.body = some c ∧ (fn.name == "runtime.NumGoroutine") = false)
    (h : ∀ w vs, GlobOk w noLoc → RepL w w.heap.size noLoc args vs → Calls P g ⟨vs⟩ w fun e w' => e = .returned x ∧ RowKit.Below w.heap.size w w') : Sat P g args (.v x) := by
  refine ⟨hfn, fun w vs hg hr => (h w vs hg hr).mono ?_⟩
  rintro e w' ⟨rfl, hb⟩
  exact ⟨x, noLoc, rfl, hb, resRep_v hx⟩
theorem repL_v {w : World} {B : Nat} {xs : List Value} {vs : List Value} (h : RepL w B noLoc (xs.map .v) vs) : vs = xs := by
  induction xs generalizing vs with
  | nil => simpa [RepL] using h
  | cons x xs ih =>
    simp only [List.map_cons, RepL] at h
    obtain ⟨y, ys, rfl, h1, h2⟩ := h
    simp only [Rep] at h1
    rw [h1.1, ih h2]
theorem tabIs_of {P : Program} {w : World} {name : String} {g : Nat} {k : IntKind} {zs : List Int} (hg : P.globalNamed name = some g) (h : Cells w g (zs.map fun z => Value.int k z)) : Lib.TabIs P w name k zs := by
  obtain ⟨e, fr, h⟩ := h
  unfold Lib.TabIs World.var?
  rw [hg]
  simp [h]
theorem below_grown {w : World} {k : Nat} {os : Array Obj} : RowKit.Below w.heap.size w (Sort.grow (w.drewN k) os) := by
  refine ⟨rfl, rfl, rfl, ?_, fun j hj => ?_⟩
  · show w.heap.size ≤ (w.heap ++ os).size
    rw [Array.size_append]; omega
  · show (w.heap ++ os)[j]? = w.heap[j]?
    rw [Array.getElem?_append_left hj]
end Go.V
namespace Go.Proofs.YtdbhfobnmlogeaaDoor
open Go.V
theorem formatInt_sat (n : Int) (h0 : -9223372036854775808 ≤ n) (h1 : n ≤ 9223372036854775807) : Sat Tryd.prog 131 [.v (.int .i64 n), .v (.int .i64 10)] (.v (.string ⟨(Lib.itoa n).toArray⟩)) := by
  refine Sat.of_calls rfl ⟨_, _, Tryd.func131, rfl, rfl⟩ fun w vs hg hr => ?_
  obtain rfl := repL_v (xs := [.int .i64 n, .int .i64 10]) hr
  refine (Tryd.strconv_FormatInt_10 n h0 h1 w (tabIs_of (g := 1) (by kernel_rfl) (hg.tab 1 _ rfl).1)).mono ?_
  rintro e w' ⟨rfl, k, os, rfl⟩
  exact ⟨rfl, below_grown⟩
end Go.Proofs.YtdbhfobnmlogeaaDoor
/- Contracts: the oldest tile, the reference's side. -/
set_option linter.unusedVariables false
set_option linter.unusedSimpArgs false
namespace Go.V
end Go.V
namespace Go.Proofs.YtdbhfobnmlogeaaDoor
open Go.V
end Go.Proofs.YtdbhfobnmlogeaaDoor
/- Contracts: OldestOf, both sides, and the law. -/
set_option linter.unusedVariables false
set_option linter.unusedSimpArgs false
namespace Go.V
end Go.V
namespace Go.Proofs.YtdbhfobnmlogeaaDoor
open Go.V
end Go.Proofs.YtdbhfobnmlogeaaDoor
/- Contracts: FirstBreak, both sides, and the law. -/
set_option linter.unusedVariables false
set_option linter.unusedSimpArgs false
namespace Go.V
end Go.V
namespace Go.Proofs.YtdbhfobnmlogeaaDoor
open Go.V
end Go.Proofs.YtdbhfobnmlogeaaDoor
/- Contracts: equal grids and roofs; ages some years later, both sides, and the law. -/
set_option linter.unusedVariables false
set_option linter.unusedSimpArgs false
namespace Go.V
end Go.V
namespace Go.Proofs.YtdbhfobnmlogeaaDoor
open Go.V
end Go.Proofs.YtdbhfobnmlogeaaDoor
/- Contracts: lists of places by a function that carries values with it; marks in lists of places; tiles that are too old. -/
set_option linter.unusedVariables false
set_option linter.unusedSimpArgs false
namespace Go.V
/- Words for the walks of this text: their default arguments are tried where they are used. -/
end Go.V
namespace Go.V
/-- Cells with numbers one after another. -/
def marksC (k : Int) (n : Nat) : List Value := tab n fun j => .int .i8 (IntKind.i8.wrap (k + j))
@[simp] theorem marksC_len (k : Int) (n : Nat) : (marksC k n).length = n := by simp [marksC]
end Go.V
namespace Go.Proofs.YtdbhfobnmlogeaaDoor
open Go.V
end Go.Proofs.YtdbhfobnmlogeaaDoor
/- Contracts: marks in lists of places; tiles that are too old; broken roofs; the laws. -/
set_option linter.unusedVariables false
set_option linter.unusedSimpArgs false
namespace Go.V
theorem allP_eq (r : Roof) (p : Nat → Nat → Bool) : allP r p = (gridP r.w.toNat r.h.toNat).filter fun q => p q.1 q.2 := by
  unfold allP pick; simp
theorem allP_len {r : Roof} (hb : (1 ≤ r.w ∧ r.w ≤ 8) ∧ (1 ≤ r.h ∧ r.h ≤ 8) ∧ r.s ≤ 1) (p : Nat → Nat → Bool) : (allP r p).length ≤ 64 := by
  rw [allP_eq]
  refine Nat.le_trans (List.length_filter_le _ _) ?_
  rw [gridP_len]
  exact Nat.mul_le_mul (show r.h.toNat ≤ 8 by omega) (show r.w.toNat ≤ 8 by omega)
end Go.V
namespace Go.Proofs.YtdbhfobnmlogeaaDoor
open Go.V
end Go.Proofs.YtdbhfobnmlogeaaDoor
/- Contracts: broken roofs, both sides, and the law. -/
set_option linter.unusedVariables false
set_option linter.unusedSimpArgs false
namespace Go.V
end Go.V
namespace Go.Proofs.YtdbhfobnmlogeaaDoor
open Go.V
end Go.Proofs.YtdbhfobnmlogeaaDoor
/- Contracts: lists of whole numbers; visits; the law on visits. -/
set_option linter.unusedVariables false
set_option linter.unusedSimpArgs false
namespace Go.V
end Go.V
namespace Go.Proofs.YtdbhfobnmlogeaaDoor
open Go.V
end Go.Proofs.YtdbhfobnmlogeaaDoor
/- Contracts: visits that are checked, both sides, and the law. -/
set_option linter.unusedVariables false
set_option linter.unusedSimpArgs false
namespace Go.V
end Go.V
namespace Go.Proofs.YtdbhfobnmlogeaaDoor
open Go.V
end Go.Proofs.YtdbhfobnmlogeaaDoor
/- Contracts: all words, patterns found again, both sides, and the law. -/
set_option linter.unusedVariables false
set_option linter.unusedSimpArgs false
namespace Go.V
/- Words for the walks of this text: their default arguments are tried where they are used. -/
end Go.V
namespace Go.V
def letB : ByteArray := ⟨#[98]⟩
def letR : ByteArray := ⟨#[114]⟩
/-- The j-th word of n letters. -/
def word : Nat → Nat → ByteArray
  | 0, _ => ⟨#[]⟩
  | n + 1, j => word n (j / 2) ++ (if j % 2 = 1 then letR else letB)
@[simp] theorem word_size : ∀ n j, (word n j).size = n
  | 0, _ => rfl
  | n + 1, j => by
    have h1 := word_size n (j / 2)
    have h2 : (if j % 2 = 1 then letR else letB).size = 1 := by split <;> rfl
    simp only [word, ByteArray.size_append, h1, h2]
@[irreducible] def wordsC (n m : Nat) : List Value := tab m fun j => .string (word n j)
@[simp] theorem wordsC_len (n m : Nat) : (wordsC n m).length = m := by unfold wordsC; simp
theorem below_succ {p : Nat → Prop} {q : Nat} (h : ∀ k, k < q → p k) (hq : p q) : ∀ k, k < q + 1 → p k := by
  intro k hk
  by_cases e : k = q
  · subst e; exact hq
  · exact h k (by omega)
end Go.V
namespace Go.Proofs.YtdbhfobnmlogeaaDoor
open Go.V
end Go.Proofs.YtdbhfobnmlogeaaDoor
/- Contracts: patterns found again, the reference's side, and the law. -/
set_option linter.unusedVariables false
set_option linter.unusedSimpArgs false
namespace Go.V
/- Words for the walks of this text: their default arguments are tried where they are used. -/
end Go.V
namespace Go.V
end Go.V
namespace Go.Proofs.YtdbhfobnmlogeaaDoor
open Go.V
end Go.Proofs.YtdbhfobnmlogeaaDoor
/- Contracts: something of each place; what has to be replaced, both sides, and the law. -/
set_option linter.unusedVariables false
set_option linter.unusedSimpArgs false
namespace Go.V
def newB (life nx y b : Int) : Int := if nx - b > life then y else b
/-- The first k tiles seen to. -/
def bornS (life nx y : Int) (born : List Int) (k : Nat) : List Int := (born.take k).map (newB life nx y) ++ born.drop k
def cntS (life nx : Int) (born : List Int) (k : Nat) : Nat := (born.take k).countP fun b => decide (nx - b > life)
def nxAt (years : Int) (vs : List Int) (i : Nat) : Int := if i + 1 < vs.length then ix vs (i + 1) else years
def bornI (life years : Int) (vs b0 : List Int) : Nat → List Int
  | 0 => b0
  | i + 1 => bornS life (nxAt years vs i) (ix vs i) (bornI life years vs b0 i) b0.length
def outI (life years : Int) (vs b0 : List Int) : Nat → List Int
  | 0 => []
  | i + 1 => outI life years vs b0 i ++ [((cntS life (nxAt years vs i) (bornI life years vs b0 i) b0.length : Nat) : Int)]
@[simp] theorem bornS_len (life nx y : Int) (born : List Int) (k : Nat) : (bornS life nx y born k).length = born.length := by
  simp [bornS]
  omega
@[simp] theorem bornI_len (life years : Int) (vs b0 : List Int) : ∀ i, (bornI life years vs b0 i).length = b0.length
  | 0 => rfl
  | i + 1 => by simp only [bornI, bornS_len]; exact bornI_len life years vs b0 i
@[simp] theorem outI_len (life years : Int) (vs b0 : List Int) : ∀ i, (outI life years vs b0 i).length = i
  | 0 => rfl
  | i + 1 => by simp only [outI, List.length_append, outI_len life years vs b0 i]; rfl
end Go.V
namespace Go.Proofs.YtdbhfobnmlogeaaDoor
open Go.V
end Go.Proofs.YtdbhfobnmlogeaaDoor
/- Contracts: the nearest pattern, both sides, and the law. -/
set_option linter.unusedVariables false
set_option linter.unusedSimpArgs false
namespace Go.V
/- Words for the walks of this text: their default arguments are tried where they are used. -/
end Go.V
namespace Go.V
end Go.V
namespace Go.Proofs.YtdbhfobnmlogeaaDoor
open Go.V
end Go.Proofs.YtdbhfobnmlogeaaDoor
/- Plain words: gutters, their pipes, and water. -/
set_option linter.unusedVariables false
set_option linter.unusedSimpArgs false
namespace Go.V
structure Gut where
  n : Int
  dp : Int
  h : Nat → Int
  lv : Int
  ps : List (Int × Int)
def px (ps : List (Int × Int)) (i : Nat) : Int × Int := ps.getD i (0, 0)
structure Gut.In (g : Gut) : Prop where
  n : -128 ≤ g.n ∧ g.n ≤ 127
  dp : -32768 ≤ g.dp ∧ g.dp ≤ 32767
  h : ∀ i, -128 ≤ g.h i ∧ g.h i ≤ 127
  lv : 0 ≤ g.lv ∧ g.lv ≤ 4294967295
  ps : ∀ i, i < g.ps.length → (-128 ≤ (px g.ps i).1 ∧ (px g.ps i).1 ≤ 127) ∧ (-32768 ≤ (px g.ps i).2 ∧ (px g.ps i).2 ≤ 32767)
  len : g.ps.length ≤ 9223372036854775807
@[irreducible] def pipesC (ps : List (Int × Int)) : List Value := ps.flatMap fun q => [.int .i8 q.1, .int .i16 q.2]
theorem pipesC_def (ps : List (Int × Int)) : pipesC ps = ps.flatMap fun q => [.int .i8 q.1, .int .i16 q.2] := by unfold pipesC; rfl
theorem pipesC_cons (q : Int × Int) (ps : List (Int × Int)) : pipesC (q :: ps) = .int .i8 q.1 :: .int .i16 q.2 :: pipesC ps := by simp [pipesC_def]
theorem pipesC_nil : pipesC [] = [] := by simp [pipesC_def]
@[simp] theorem pipesC_len (ps : List (Int × Int)) : (pipesC ps).length = ps.length * 2 := by
  induction ps with
  | nil => simp [pipesC_nil]
  | cons q ps ih => simp only [pipesC_cons, List.length_cons, ih]; omega
theorem pipesC_append (a b : List (Int × Int)) : pipesC (a ++ b) = pipesC a ++ pipesC b := by simp [pipesC_def]
theorem pipe_get : ∀ {ps : List (Int × Int)} {i : Nat}, i < ps.length → nth (pipesC ps) (i * 2) = some (.int .i8 (px ps i).1) ∧ nth (pipesC ps) (i * 2 + 1) = some (.int .i16 (px ps i).2)
  | [], i, h => by simp at h
  | q :: ps, 0, h => by rw [pipesC_cons]; exact ⟨rfl, rfl⟩
  | q :: ps, i + 1, h => by
    rw [show (i + 1) * 2 = i * 2 + 1 + 1 by omega, pipesC_cons]
    exact pipe_get (by simpa using h)
theorem pipeN1 {ps : List (Int × Int)} {i o : Nat} (h : i < ps.length) (ho : o = i * 2) : nth (pipesC ps) o = some (.int .i8 (px ps i).1) := by subst ho; exact (pipe_get h).1
theorem pipeN2 {ps : List (Int × Int)} {i o : Nat} (h : i < ps.length) (ho : o = i * 2 + 1) : nth (pipesC ps) o = some (.int .i16 (px ps i).2) := by subst ho; exact (pipe_get h).2
theorem pipeA {ps : List (Int × Int)} {i : Nat} (h : i < ps.length) : nth (pipesC ps) ((i : Int).toNat * 2 + 0) = some (.int .i8 (px ps i).1) := pipeN1 h (by simp)
theorem pipeB {ps : List (Int × Int)} {i : Nat} (h : i < ps.length) : nth (pipesC ps) ((i : Int).toNat * 2 + 1) = some (.int .i16 (px ps i).2) := pipeN2 h (by simp)
def pipeD (q : Int × Int) : D := .v (.agg ⟨[.int .i8 q.1, .int .i16 q.2]⟩)
theorem pipe_sub : ∀ {ps : List (Int × Int)} {i : Nat}, i < ps.length → ((pipesC ps).drop (i * 2)).take 2 = [.int .i8 (px ps i).1, .int .i16 (px ps i).2]
  | [], i, h => by simp at h
  | q :: ps, 0, h => by rw [pipesC_cons]; rfl
  | q :: ps, i + 1, h => by
    rw [show (i + 1) * 2 = i * 2 + 1 + 1 by omega, pipesC_cons]
    exact pipe_sub (ps := ps) (by simpa using h)
theorem vpipe {ps : List (Int × Int)} {i o : Nat} (ho : o = i * 2) (h : i < ps.length) : D.v (.agg ⟨((pipesC ps).drop o).take 2⟩) = pipeD (px ps i) := by
  subst ho; rw [pipe_sub h]; rfl
theorem vpipe1 {ps : List (Int × Int)} {i o : Nat} (ho : o = i * 2) (h : i < ps.length) : ((pipesC ps).drop o).take 2 = [.int .i8 (px ps i).1, .int .i16 (px ps i).2] := by
  subst ho; exact pipe_sub h
def hD (h : Nat → Int) : List D := [.v (.int .i8 (h 0)), .v (.int .i8 (h 1)), .v (.int .i8 (h 2)), .v (.int .i8 (h 3)), .v (.int .i8 (h 4)), .v (.int .i8 (h 5)), .v (.int .i8 (h 6)), .v (.int .i8 (h 7)), .v (.int .i8 (h 8)), .v (.int .i8 (h 9)), .v (.int .i8 (h 10)), .v (.int .i8 (h 11)), .v (.int .i8 (h 12)), .v (.int .i8 (h 13)), .v (.int .i8 (h 14)), .v (.int .i8 (h 15)), .v (.int .i8 (h 16))]
def hV (h : Nat → Int) : List Value := [.int .i8 (h 0), .int .i8 (h 1), .int .i8 (h 2), .int .i8 (h 3), .int .i8 (h 4), .int .i8 (h 5), .int .i8 (h 6), .int .i8 (h 7), .int .i8 (h 8), .int .i8 (h 9), .int .i8 (h 10), .int .i8 (h 11), .int .i8 (h 12), .int .i8 (h 13), .int .i8 (h 14), .int .i8 (h 15), .int .i8 (h 16)]
def pipesD (m : Bool) (ps : List (Int × Int)) : D := .row m 2 (.v (.agg ⟨pipesC ps⟩)) ps.length
def gutL (m : Bool) (g : Gut) : List D := .v (.int .i8 g.n) :: .v (.int .i16 g.dp) :: (hD g.h ++ [.v (.int .u32 g.lv), pipesD m g.ps])
def gutD (m : Bool) (g : Gut) : D := .agg (gutL m g)
theorem cases17 {P : Nat → Prop} (h0 : P 0) (h1 : P 1) (h2 : P 2) (h3 : P 3) (h4 : P 4) (h5 : P 5) (h6 : P 6) (h7 : P 7) (h8 : P 8) (h9 : P 9) (h10 : P 10) (h11 : P 11) (h12 : P 12) (h13 : P 13) (h14 : P 14) (h15 : P 15) (h16 : P 16) : ∀ i, i < 17 → P i := by
  intro i hi
  have : i = 0 ∨ i = 1 ∨ i = 2 ∨ i = 3 ∨ i = 4 ∨ i = 5 ∨ i = 6 ∨ i = 7 ∨ i = 8 ∨ i = 9 ∨ i = 10 ∨ i = 11 ∨ i = 12 ∨ i = 13 ∨ i = 14 ∨ i = 15 ∨ i = 16 := by omega
  rcases this with rfl | rfl | rfl | rfl | rfl | rfl | rfl | rfl | rfl | rfl | rfl | rfl | rfl | rfl | rfl | rfl | rfl <;> assumption
theorem gutH {m : Bool} {g : Gut} {o i : Nat} (ho : o = 2 + i) (h : i < 17) : nth (gutL m g) o = some (.v (.int .i8 (g.h i))) := by
  subst ho
  refine cases17 (P := fun i => nth (gutL m g) (2 + i) = some (.v (.int .i8 (g.h i)))) ?_ ?_ ?_ ?_ ?_ ?_ ?_ ?_ ?_ ?_ ?_ ?_ ?_ ?_ ?_ ?_ ?_ i h <;> rfl
theorem hDN {h : Nat → Int} {o i : Nat} (ho : o = i) (hi : i < 17) : nth (hD h) o = some (.v (.int .i8 (h i))) := by
  subst ho
  refine cases17 (P := fun o => nth (hD h) o = some (.v (.int .i8 (h o)))) ?_ ?_ ?_ ?_ ?_ ?_ ?_ ?_ ?_ ?_ ?_ ?_ ?_ ?_ ?_ ?_ ?_ o hi <;> rfl
theorem hDA {h : Nat → Int} {i : Nat} (hi : i < 17) : nth (hD h) (0 + (i : Int).toNat * 1) = some (.v (.int .i8 (h i))) := hDN (by simp) hi
theorem hDA' {h : Nat → Int} {i : Nat} (hi : i < 17) : nth (hD h) ((i : Int).toNat * 1) = some (.v (.int .i8 (h i))) := hDN (by simp) hi
theorem gutA {m : Bool} {g : Gut} {i : Nat} (h : i < 17) : nth (gutL m g) (0 + 2 + (i : Int).toNat * 1) = some (.v (.int .i8 (g.h i))) := gutH (by omega) h
theorem tab17 (h : Nat → Int) : tab 17 (fun i => .int .i8 (h i)) = hV h := by rw [tab_def]; rfl
/-- Water. -/
def watC (w : Nat → Int) : List Value := tab 17 fun i => .int .i32 (w i)
@[simp] theorem watC_len (w : Nat → Int) : (watC w).length = 17 := by simp [watC]
structure WatIn (w : Nat → Int) : Prop where
  t : ∀ i, -2147483648 ≤ w i ∧ w i ≤ 2147483647
theorem watN {w : Nat → Int} {o i : Nat} (ho : o = i) (h : i < 17) : nth (watC w) o = some (.int .i32 (w i)) := by subst ho; unfold watC; rw [nth_tab h]
theorem watA {w : Nat → Int} {i : Nat} (h : i < 17) : nth (watC w) (0 + (i : Int).toNat * 1) = some (.int .i32 (w i)) := watN (by simp) h
theorem watA' {w : Nat → Int} {i : Nat} (h : i < 17) : nth (watC w) ((i : Int).toNat * 1) = some (.int .i32 (w i)) := watN (by simp) h
def putW (w : Nat → Int) (c : Nat) (x : Int) : Nat → Int := fun j => if j = c then x else w j
theorem allN_iff {n : Nat} {p : Nat → Bool} : (List.range n).all p = true ↔ ∀ i, i < n → p i = true := by simp
theorem allN_false {n i : Nat} {p : Nat → Bool} (hi : i < n) (h : p i = false) : (List.range n).all p = false := by
  cases ha : (List.range n).all p
  · rfl
  · rw [allN_iff.1 ha i hi] at h; cases h
/-- What is valid. -/
def deepB (x : Int) : Bool := decide (0 ≤ x) && decide (x ≤ 1000)
def hOk (g : Gut) (k : Nat) : Bool := (decide (0 ≤ g.h k) && decide (g.h k ≤ 9)) && (decide ((k : Int) < g.n) || g.h k == 0)
def pOk (g : Gut) (i : Nat) : Bool := ((decide (0 ≤ (px g.ps i).1) && decide ((px g.ps i).1 ≤ g.n - 1)) && deepB (px g.ps i).2) && (i == 0 || decide ((px g.ps (i - 1)).1 < (px g.ps i).1))
def okG0 (g : Gut) : Bool := (((decide (1 ≤ g.n) && decide (g.n ≤ 17)) && deepB g.dp) && (g.lv.fdiv (2 ^ (min g.n.toNat IntKind.u32.bits)) == 0)) && decide (g.ps.length ≤ 4)
def okG (g : Gut) : Bool := (okG0 g && (List.range 17).all (hOk g)) && (List.range g.ps.length).all (pOk g)
structure Gut.Ok (g : Gut) : Prop where
  n : 1 ≤ g.n ∧ g.n ≤ 17
  dp : 0 ≤ g.dp ∧ g.dp ≤ 1000
  len : g.ps.length ≤ 4
  h : ∀ k, k < 17 → 0 ≤ g.h k ∧ g.h k ≤ 9
  ps : ∀ i, i < g.ps.length → (0 ≤ (px g.ps i).1 ∧ (px g.ps i).1 ≤ g.n - 1) ∧ (0 ≤ (px g.ps i).2 ∧ (px g.ps i).2 ≤ 1000)
theorem okG_ok {g : Gut} (h : okG g = true) : g.Ok := by
  simp only [okG, Bool.and_eq_true] at h
  obtain ⟨⟨h0, h1⟩, h2⟩ := h
  simp only [okG0, deepB, Bool.and_eq_true, decide_eq_true_eq] at h0
  refine ⟨h0.1.1.1, h0.1.1.2, h0.2, fun k hk => ?_, fun i hi => ?_⟩
  · have := allN_iff.1 h1 k hk
    simp only [hOk, Bool.and_eq_true, decide_eq_true_eq] at this
    exact this.1
  · have := allN_iff.1 h2 i hi
    simp only [pOk, deepB, Bool.and_eq_true, decide_eq_true_eq] at this
    exact this.1
end Go.V
/- Contracts: what the laws do with gutters and water. -/
set_option linter.unusedVariables false
set_option linter.unusedSimpArgs false
namespace Go.V
/- Words for the walks of this text: their default arguments are tried where they are used. -/
theorem go_D3 {P Q : Prop} (k : Q) (h : P := by first | exact Nat.le_of_ble_eq_true rfl | exact rfl | decide | omega | (simp [splice]; done) | (constructor <;> omega) | (simp [splice]; omega)) : P ∧ Q := ⟨h, k⟩
theorem lk_D3 {α : Type} {o : Option α} {K : α → Prop} {x : α} (k : K x) (h : o = some x := by first | exact watA (by omega) | exact watA' (by omega) | exact hDA (by omega) | exact hDA' (by omega) | exact gutA (by omega) | exact pipeA (by omega) | exact pipeB (by omega)) : optK o K := optK_of h k
theorem sc_D3 {P : Program} {g : FuncId} {args args' : List D} {res : D} (h : Sat P g args res) (e : args' = args := by repeat (first | rfl | exact vfull (by first | (simp [splice]; done) | (simp [splice]; omega)) | exact rfull (by first | (simp [splice]; done) | (simp [splice]; omega)) | exact vpipe (by simp; done) (by omega) | exact vsplice (by simp) (by simp) | refine ceq ?_ ?_ | refine Eq.trans (vsplice (by first | (simp; done) | (simp; omega)) (by first | (simp; done) | (simp; omega))) ?_)) : Sat P g args' res := Sat.of_eq h e
theorem hold_D3 {P : Prop} (h : P := by (repeat' (first | exact trivial | apply And.intro)) <;> (first | rfl | exact succ8 (by omega) | exact succ64 (by omega) | exact CapOk.fn (by assumption) _ _ | exact vintS (by omega) | exact vintS (by rw [w64 (by omega) (by omega)]; omega) | exact vintS (by rw [w8 (by omega) (by omega)]; omega) | exact vslcS (by omega) | exact vslcS (by simp))) : P := h
theorem okt_D3 {P : Prop} (h : P := by first | omega | (dsimp only; omega) | ((repeat' apply And.intro) <;> omega) | (dsimp only; (repeat' apply And.intro) <;> omega) | trivial) : P := h
end Go.V
namespace Go.V
/-- Of an array the first k cells of another one. -/
def mix (x f : Nat → Int) (k : Nat) : Nat → Int := fun j => if j < k then x j else f j
theorem mix_zero (x f : Nat → Int) : mix x f 0 = f := by funext j; simp [mix]
theorem mix_put {x f : Nat → Int} {k : Nat} : putW (mix x f k) k (x k) = mix x f (k + 1) := by
  funext j
  unfold putW mix
  by_cases h : j = k
  · subst h; simp
  · rw [if_neg h]
    by_cases h2 : j < k
    · rw [if_pos h2, if_pos (by omega)]
    · rw [if_neg h2, if_neg (by omega)]
/-- Heights as cells. -/
def hC (h : Nat → Int) : List Value := tab 17 fun i => .int .i8 (h i)
@[simp] theorem hC_len (h : Nat → Int) : (hC h).length = 17 := by simp [hC]
theorem hC_zero : hC (fun _ => 0) = List.replicate 17 (.int .i8 0) := by unfold hC; rw [tab_def]; rfl
theorem hC_set {w : Nat → Int} {c o : Nat} {x : Int} (ho : o = c) : (hC w).set o (.int .i8 x) = hC (putW w c x) := by
  subst ho
  unfold hC putW
  rw [tab_set]
  apply tab_congr
  intro i hi
  by_cases h : i = o
  · subst h; simp
  · simp [h]
theorem hmix_all (x f : Nat → Int) : hC (mix x f 17) = hV x := by
  rw [← tab17]; unfold hC; exact tab_congr fun i hi => by simp [mix, hi]
def cpQ (ps : List (Int × Int)) (i : Nat) : List (Int × Int) := ps.take i ++ List.replicate (ps.length - i) (0, 0)
theorem cpQ_len {ps : List (Int × Int)} {i : Nat} (h : i ≤ ps.length) : (cpQ ps i).length = ps.length := by simp [cpQ]; omega
theorem px_take {ps : List (Int × Int)} {i : Nat} (h : i < ps.length) : ps.take (i + 1) = ps.take i ++ [px ps i] := by
  rw [List.take_add_one]
  unfold px
  rw [List.getD_eq_getElem?_getD]
  simp [h]
theorem cpQ_all (ps : List (Int × Int)) : cpQ ps ps.length = ps := by simp [cpQ]
theorem pipesC_rep : ∀ n, pipesC (List.replicate n (0, 0)) = rep n [.int .i8 0, .int .i16 0]
  | 0 => by simp [pipesC_nil, rep]
  | n + 1 => by
    rw [List.replicate_succ, pipesC_cons, pipesC_rep n]
    unfold rep
    rw [List.replicate_succ, List.flatten_cons]
    rfl
theorem cpQ_zero (ps : List (Int × Int)) : rep ps.length [.int .i8 0, .int .i16 0] = pipesC (cpQ ps 0) := by
  unfold cpQ; rw [List.take_zero, List.nil_append, Nat.sub_zero, pipesC_rep]
theorem cpQ_next {ps : List (Int × Int)} {i : Nat} (h : i < ps.length) : splice (pipesC (cpQ ps i)) (i * 2) [.int .i8 (px ps i).1, .int .i16 (px ps i).2] = pipesC (cpQ ps (i + 1)) := by
  unfold cpQ
  rw [px_take h, show ps.length - i = (ps.length - (i + 1)) + 1 by omega, List.replicate_succ, pipesC_append, pipesC_cons, pipesC_append, pipesC_append, pipesC_cons, pipesC_nil]
  have hl : (pipesC (ps.take i)).length = i * 2 := by simp; omega
  generalize pipesC (ps.take i) = a at *
  unfold splice
  rw [← hl, List.take_left' rfl, List.drop_append, show a.length + [Value.int IntKind.i8 (px ps i).1, Value.int IntKind.i16 (px ps i).2].length - a.length = 2 by simp]
  simp
end Go.V
namespace Go.Proofs.YtdbhfobnmlogeaaDoor
open Go.V
theorem szPipeS_sat (ps : List (Int × Int)) (hl : ps.length ≤ 9223372036854775807) (l : Int) (h : 0 ≤ l ∧ l ≤ 1048576) (m : Bool) : Sat Tryd.prog 59 [pipesD m ps, .v (.int .i64 l)] (.v (.int .i64 (if l - ps.length < 0 then -1 else l - ps.length))) := by
  refine sat_of_wp hMix tOk Tryd.func59 rfl rfl Tryd.ntmps59 rfl rfl Tryd.results59 (by kernel_rfl) ?_
  conv => whnf
  repeat (first | (refine go_D3 ?_; conv => whnf) | (refine lk_D3 ?_; conv => whnf))
  rw [show IntKind.i64.wrap (l - (ps.length : Int)) = l - ps.length from w64 (by omega) (by omega)]
  cases h1 : decide (l - (ps.length : Int) < 0)
  · have h' : ¬ l - (ps.length : Int) < 0 := by simpa using h1
    rw [if_neg h']
    conv => whnf
    repeat (first | (refine go_D3 ?_; conv => whnf) | (refine lk_D3 ?_; conv => whnf))
    first | refine ⟨rfl, _, rfl, ?_⟩ | refine ⟨_, rfl, ?_⟩
    rfl
  have h' : l - (ps.length : Int) < 0 := by simpa using h1
  rw [if_pos h']
  conv => whnf
  repeat (first | (refine go_D3 ?_; conv => whnf) | (refine lk_D3 ?_; conv => whnf))
  first | refine ⟨rfl, _, rfl, ?_⟩ | refine ⟨_, rfl, ?_⟩
  rfl
def szG (g : Gut) (l : Int) : Int := if l - g.ps.length < 0 then -1 else l - g.ps.length
theorem szGutter_sat (g : Gut) (hl : g.ps.length ≤ 9223372036854775807) (l : Int) (h : 0 ≤ l ∧ l ≤ 1048576) : Sat Tryd.prog 15 [gutD false g, .v (.int .i64 l)] (.v (.int .i64 (szG g l))) := by
  refine sat_of_wp hMix tOk Tryd.func15 rfl rfl Tryd.ntmps15 rfl rfl Tryd.results15 (by kernel_rfl) ?_
  conv => whnf
  repeat (first | (refine go_D3 ?_; conv => whnf) | (refine lk_D3 ?_; conv => whnf))
  first | refine ⟨_, _, rfl, sc_D3 (szPipeS_sat g.ps hl l h false), ?_⟩ | refine .inl ⟨_, _, rfl, sc_D3 (szPipeS_sat g.ps hl l h false), ?_⟩
  conv => whnf
  repeat (first | (refine go_D3 ?_; conv => whnf) | (refine lk_D3 ?_; conv => whnf))
  rw [show (if l - (g.ps.length : Int) < 0 then -1 else l - g.ps.length) = szG g l from rfl]
  refine bsplitT (fun h1 => ?_) (fun h1 => ?_)
  all_goals (conv => whnf)
  all_goals (repeat (first | (refine go_D3 ?_; conv => whnf) | (refine lk_D3 ?_; conv => whnf)))
  · have : szG g l = -1 := by
      have h1' : szG g l < 0 := by simpa using h1
      unfold szG at h1' ⊢
      split
      · rfl
      · rename_i h2; rw [if_neg h2] at h1'; omega
    rw [this]
    first | refine ⟨rfl, _, rfl, ?_⟩ | refine ⟨_, rfl, ?_⟩
    rfl
  first | refine ⟨rfl, _, rfl, ?_⟩ | refine ⟨_, rfl, ?_⟩
  rfl
theorem toInt8A17_sat (h : Nat → Int) : Sat Tryd.prog 62 [.agg (hD h)] (.v (.agg ⟨hV h⟩)) := by
  refine sat_of_wp hMix tOk Tryd.func62 rfl rfl Tryd.ntmps62 rfl rfl Tryd.results62 (by kernel_rfl) ?_
  conv => whnf
  repeat (first | (refine go_D3 ?_; conv => whnf) | (refine lk_D3 ?_; conv => whnf))
  refine loop_rule (α := Nat) (fun k => [(1, .ptr (1, 0, 0) 0), (2, .ptr (2, 0, 0) 0), (3, .ptr (3, 0, 0) 0), (4, .v (.int .i64 k))]) (fun k => [((1, 0, 0), .agg (hD h)), ((2, 0, 0), .v (.agg ⟨List.replicate 17 (.int .i8 0)⟩)), ((3, 0, 0), .v (.agg ⟨hC (mix h (fun _ => 0) k)⟩))]) (fun k => k ≤ 17) (fun k => 17 - k) (0) ?_ (sim_of (rn := [((1, 0, 0), (1, 0, 0)), ((2, 0, 0), (2, 0, 0)), ((3, 0, 0), (3, 0, 0))]) rfl ?_ ?_) ?_
  · exact okt_D3
  · exact hold_D3
  · ((repeat' (first | exact trivial | apply And.intro)) <;> ((first | refine ⟨_, _, rfl, rfl, ?_⟩ ); first | rfl | (exact cset (by rw [mix_zero, hC_zero]))))
  intro k hk
  conv => whnf
  repeat (first | (refine go_D3 ?_; conv => whnf) | (refine lk_D3 ?_; conv => whnf))
  cases h1 : decide ((k : Int) < 17)
  · have hk17 : k = 17 := by simp at h1; omega
    subst hk17
    rw [hmix_all]
    conv => whnf
    repeat (first | (refine go_D3 ?_; conv => whnf) | (refine lk_D3 ?_; conv => whnf))
    first | refine ⟨rfl, _, rfl, ?_⟩ | refine ⟨_, rfl, ?_⟩
    rfl
  have hk17 : k < 17 := by simp at h1; omega
  conv => whnf
  repeat (first | (refine go_D3 ?_; conv => whnf) | (refine lk_D3 ?_; conv => whnf))
  have setA : (hC (mix h (fun _ => 0) k)).set (0 + (k : Int).toNat * 1) (.int .i8 (h k)) = hC (mix h (fun _ => 0) (k + 1)) := by
    rw [show 0 + (k : Int).toNat * 1 = k by omega, hC_set rfl, mix_put]
  refine ⟨k + 1, ?_, ?_, sim_of (rn := [((1, 0, 0), (1, 0, 0)), ((2, 0, 0), (2, 0, 0)), ((3, 0, 0), (3, 0, 0))]) rfl ?_ ?_⟩
  · (dsimp only; omega)
  · exact okt_D3
  · exact hold_D3
  · ((repeat' (first | exact trivial | apply And.intro)) <;> ((first | refine ⟨_, _, rfl, rfl, ?_⟩ ); first | rfl | (exact cset setA)))
theorem toPipe_sat (q : Int × Int) : Sat Tryd.prog 120 [pipeD q] (pipeD q) := by
  refine sat_of_wp hMix tOk Tryd.func120 rfl rfl Tryd.ntmps120 rfl rfl Tryd.results120 (by kernel_rfl) ?_
  conv => whnf
  repeat (first | (refine go_D3 ?_; conv => whnf) | (refine lk_D3 ?_; conv => whnf))
  first | refine ⟨rfl, _, rfl, ?_⟩ | refine ⟨_, rfl, ?_⟩
  rfl
theorem toPipeS_sat (ps : List (Int × Int)) (hl : ps.length ≤ 1048576) (m : Bool) : Sat Tryd.prog 63 [pipesD m ps] (pipesD true ps) := by
  refine sat_of_wp hMix tOk Tryd.func63 rfl rfl Tryd.ntmps63 rfl rfl Tryd.results63 (by kernel_rfl) ?_
  conv => whnf
  repeat (first | (refine go_D3 ?_; conv => whnf) | (refine lk_D3 ?_; conv => whnf))
  refine loop_rule (α := Nat) (fun i => [(0, pipesD m ps), (3, .slc true 2 (7, 0, 0) 0 ps.length), (4, .v (.int .i64 i))]) (fun i => [((7, 0, 0), .v (.agg ⟨pipesC (cpQ ps i)⟩))]) (fun i => i ≤ ps.length) (fun i => ps.length - i) (0) ?_ (sim_of (rn := [((7, 0, 0), (7, 0, 0))]) rfl ?_ ?_) ?_
  · exact okt_D3
  · exact hold_D3
  · ((repeat' (first | exact trivial | apply And.intro)) <;> ((first | refine ⟨_, _, rfl, rfl, ?_⟩ ); first | rfl | (exact cset (cpQ_zero ps))))
  intro i hi
  conv => whnf
  repeat (first | (refine go_D3 ?_; conv => whnf) | (refine lk_D3 ?_; conv => whnf))
  cases h : decide ((i : Int) < (ps.length : Int))
  · have hin : i = ps.length := by simp at h; omega
    subst hin
    rw [cpQ_all]
    conv => whnf
    repeat (first | (refine go_D3 ?_; conv => whnf) | (refine lk_D3 ?_; conv => whnf))
    first | refine ⟨rfl, _, rfl, ?_⟩ | refine ⟨_, rfl, ?_⟩
    rfl
  have hin : i < ps.length := by simpa using h
  have hcl := cpQ_len (ps := ps) (i := i) hi
  conv => whnf
  repeat (first | (refine go_D3 ?_; conv => whnf) | (refine lk_D3 ?_; conv => whnf))
  first | refine ⟨_, _, rfl, sc_D3 (toPipe_sat (px ps i)), ?_⟩ | refine .inl ⟨_, _, rfl, sc_D3 (toPipe_sat (px ps i)), ?_⟩
  conv => whnf
  repeat (first | (refine go_D3 ?_; conv => whnf) | (refine lk_D3 ?_; conv => whnf))
  have setA : splice (pipesC (cpQ ps i)) (0 + (i : Int).toNat * 2) [.int .i8 (px ps i).1, .int .i16 (px ps i).2] = pipesC (cpQ ps (i + 1)) := by
    rw [show 0 + (i : Int).toNat * 2 = i * 2 by omega, cpQ_next hin]
  refine ⟨i + 1, ?_, ?_, sim_of (rn := [((7, 0, 0), (7, 0, 0))]) rfl ?_ ?_⟩
  · (dsimp only; omega)
  · exact okt_D3
  · exact hold_D3
  · ((repeat' (first | exact trivial | apply And.intro)) <;> ((first | refine ⟨_, _, rfl, rfl, ?_⟩ ); first | rfl | (exact cset setA)))
theorem toGutter_sat (g : Gut) (hl : g.ps.length ≤ 1048576) : Sat Tryd.prog 17 [gutD false g] (gutD true g) := by
  refine sat_of_wp hMix tOk Tryd.func17 rfl rfl Tryd.ntmps17 rfl rfl Tryd.results17 (by kernel_rfl) ?_
  conv => whnf
  repeat (first | (refine go_D3 ?_; conv => whnf) | (refine lk_D3 ?_; conv => whnf))
  first | refine ⟨_, _, rfl, sc_D3 (toInt8A17_sat g.h), ?_⟩ | refine .inl ⟨_, _, rfl, sc_D3 (toInt8A17_sat g.h), ?_⟩
  conv => whnf
  repeat (first | (refine go_D3 ?_; conv => whnf) | (refine lk_D3 ?_; conv => whnf))
  first | refine ⟨_, _, rfl, sc_D3 (toPipeS_sat g.ps hl false), ?_⟩ | refine .inl ⟨_, _, rfl, sc_D3 (toPipeS_sat g.ps hl false), ?_⟩
  conv => whnf
  repeat (first | (refine go_D3 ?_; conv => whnf) | (refine lk_D3 ?_; conv => whnf))
  first | refine ⟨rfl, _, rfl, ?_⟩ | refine ⟨_, rfl, ?_⟩
  skip
  have e : List.take (g.ps.length * 2) (List.drop 0 (pipesC g.ps)) = pipesC g.ps := by rw [List.drop_zero, take_full (by simp)]
  refine Eq.trans (b := one' [.agg (.v (.int .i8 g.n) :: .v (.int .i16 g.dp) :: (hD g.h ++ [.v (.int .u32 g.lv), .row true 2 (.v (.agg ⟨List.take (g.ps.length * 2) (List.drop 0 (pipesC g.ps))⟩)) g.ps.length]))]) ?_ rfl
  rw [e]; rfl
theorem eqInt8A17_same (h : Nat → Int) : Sat Tryd.prog 66 [.agg (hD h), .agg (hD h)] (.v (.bool true)) := by
  refine sat_of_wp hMix tOk Tryd.func66 rfl rfl Tryd.ntmps66 rfl rfl Tryd.results66 (by kernel_rfl) ?_
  conv => whnf
  repeat (first | (refine go_D3 ?_; conv => whnf) | (refine lk_D3 ?_; conv => whnf))
  refine loop_rule (α := Nat) (fun k => [(2, .ptr (2, 0, 0) 0), (3, .ptr (3, 0, 0) 0), (5, .v (.int .i64 k))]) (fun k => [((2, 0, 0), .agg (hD h)), ((3, 0, 0), .agg (hD h))]) (fun k => k ≤ 17) (fun k => 17 - k) (0) ?_ (sim_of (rn := [((2, 0, 0), (2, 0, 0)), ((3, 0, 0), (3, 0, 0))]) rfl ?_ ?_) ?_
  · exact okt_D3
  · exact hold_D3
  · ((repeat' (first | exact trivial | apply And.intro)) <;> ((first | refine ⟨_, _, rfl, rfl, ?_⟩ ); rfl))
  intro k hk
  conv => whnf
  repeat (first | (refine go_D3 ?_; conv => whnf) | (refine lk_D3 ?_; conv => whnf))
  cases h1 : decide ((k : Int) < 17)
  · conv => whnf
    repeat (first | (refine go_D3 ?_; conv => whnf) | (refine lk_D3 ?_; conv => whnf))
    first | refine ⟨rfl, _, rfl, ?_⟩ | refine ⟨_, rfl, ?_⟩
    rfl
  have hk17 : k < 17 := by simp at h1; omega
  conv => whnf
  repeat (first | (refine go_D3 ?_; conv => whnf) | (refine lk_D3 ?_; conv => whnf))
  rw [show (h k != h k) = false by simp]
  conv => whnf
  repeat (first | (refine go_D3 ?_; conv => whnf) | (refine lk_D3 ?_; conv => whnf))
  refine ⟨k + 1, ?_, ?_, sim_of (rn := [((2, 0, 0), (2, 0, 0)), ((3, 0, 0), (3, 0, 0))]) rfl ?_ ?_⟩
  · (dsimp only; omega)
  · exact okt_D3
  · exact hold_D3
  · ((repeat' (first | exact trivial | apply And.intro)) <;> ((first | refine ⟨_, _, rfl, rfl, ?_⟩ ); rfl))
theorem eqPipe_same (q : Int × Int) : Sat Tryd.prog 126 [pipeD q, pipeD q] (.v (.bool true)) := by
  refine sat_of_wp hMix tOk Tryd.func126 rfl rfl Tryd.ntmps126 rfl rfl Tryd.results126 (by kernel_rfl) ?_
  conv => whnf
  repeat (first | (refine go_D3 ?_; conv => whnf) | (refine lk_D3 ?_; conv => whnf))
  rw [show (q.1 != q.1) = false by simp]
  conv => whnf
  repeat (first | (refine go_D3 ?_; conv => whnf) | (refine lk_D3 ?_; conv => whnf))
  rw [show (q.2 != q.2) = false by simp]
  conv => whnf
  repeat (first | (refine go_D3 ?_; conv => whnf) | (refine lk_D3 ?_; conv => whnf))
  first | refine ⟨rfl, _, rfl, ?_⟩ | refine ⟨_, rfl, ?_⟩
  rfl
theorem eqPipeS_same (ps : List (Int × Int)) (hl : ps.length ≤ 1048576) (m m' : Bool) : Sat Tryd.prog 67 [pipesD m ps, pipesD m' ps] (.v (.bool true)) := by
  refine sat_of_wp hMix tOk Tryd.func67 rfl rfl Tryd.ntmps67 rfl rfl Tryd.results67 (by kernel_rfl) ?_
  conv => whnf
  repeat (first | (refine go_D3 ?_; conv => whnf) | (refine lk_D3 ?_; conv => whnf))
  rw [show ((ps.length : Int) != (ps.length : Int)) = false by simp]
  conv => whnf
  repeat (first | (refine go_D3 ?_; conv => whnf) | (refine lk_D3 ?_; conv => whnf))
  refine loop_rule (α := Nat) (fun i => [(0, pipesD m ps), (1, pipesD m' ps), (5, .v (.int .i64 i))]) (fun i => []) (fun i => i ≤ ps.length) (fun i => ps.length - i) (0) ?_ (sim_of (rn := []) rfl ?_ ?_) ?_
  · exact okt_D3
  · exact hold_D3
  · ((repeat' (first | exact trivial | apply And.intro)) <;> ((first | refine ⟨_, _, rfl, rfl, ?_⟩ ); rfl))
  intro i hi
  conv => whnf
  repeat (first | (refine go_D3 ?_; conv => whnf) | (refine lk_D3 ?_; conv => whnf))
  cases h : decide ((i : Int) < (ps.length : Int))
  · conv => whnf
    repeat (first | (refine go_D3 ?_; conv => whnf) | (refine lk_D3 ?_; conv => whnf))
    first | refine ⟨rfl, _, rfl, ?_⟩ | refine ⟨_, rfl, ?_⟩
    rfl
  have hin : i < ps.length := by simpa using h
  conv => whnf
  repeat (first | (refine go_D3 ?_; conv => whnf) | (refine lk_D3 ?_; conv => whnf))
  first | refine ⟨_, _, rfl, sc_D3 (eqPipe_same (px ps i)), ?_⟩ | refine .inl ⟨_, _, rfl, sc_D3 (eqPipe_same (px ps i)), ?_⟩
  conv => whnf
  repeat (first | (refine go_D3 ?_; conv => whnf) | (refine lk_D3 ?_; conv => whnf))
  refine ⟨i + 1, ?_, ?_, sim_of (rn := []) rfl ?_ ?_⟩
  · (dsimp only; omega)
  · exact okt_D3
  · exact hold_D3
  · ((repeat' (first | exact trivial | apply And.intro)) <;> ((first | refine ⟨_, _, rfl, rfl, ?_⟩ ); rfl))
theorem eqGutter_same (g : Gut) (hl : g.ps.length ≤ 1048576) : Sat Tryd.prog 19 [gutD false g, gutD false g] (.v (.bool true)) := by
  refine sat_of_wp hMix tOk Tryd.func19 rfl rfl Tryd.ntmps19 rfl rfl Tryd.results19 (by kernel_rfl) ?_
  conv => whnf
  repeat (first | (refine go_D3 ?_; conv => whnf) | (refine lk_D3 ?_; conv => whnf))
  rw [show (g.n != g.n) = false by simp]
  conv => whnf
  repeat (first | (refine go_D3 ?_; conv => whnf) | (refine lk_D3 ?_; conv => whnf))
  rw [show (g.dp != g.dp) = false by simp]
  conv => whnf
  repeat (first | (refine go_D3 ?_; conv => whnf) | (refine lk_D3 ?_; conv => whnf))
  first | refine ⟨_, _, rfl, sc_D3 (eqInt8A17_same g.h), ?_⟩ | refine .inl ⟨_, _, rfl, sc_D3 (eqInt8A17_same g.h), ?_⟩
  conv => whnf
  repeat (first | (refine go_D3 ?_; conv => whnf) | (refine lk_D3 ?_; conv => whnf))
  rw [show (g.lv != g.lv) = false by simp]
  conv => whnf
  repeat (first | (refine go_D3 ?_; conv => whnf) | (refine lk_D3 ?_; conv => whnf))
  first | refine ⟨_, _, rfl, sc_D3 (eqPipeS_same g.ps hl false false), ?_⟩ | refine .inl ⟨_, _, rfl, sc_D3 (eqPipeS_same g.ps hl false false), ?_⟩
  conv => whnf
  repeat (first | (refine go_D3 ?_; conv => whnf) | (refine lk_D3 ?_; conv => whnf))
  first | refine ⟨rfl, _, rfl, ?_⟩ | refine ⟨_, rfl, ?_⟩
  rfl
end Go.Proofs.YtdbhfobnmlogeaaDoor
/- Contracts: valid gutters and water, both sides. -/
set_option linter.unusedVariables false
set_option linter.unusedSimpArgs false
namespace Go.V
/- Words for the walks of this text: their default arguments are tried where they are used. -/
theorem go_D4 {P Q : Prop} (k : Q) (h : P := by first | exact Nat.le_of_ble_eq_true rfl | exact rfl | decide | omega | (simp [splice]; done) | (constructor <;> omega) | (simp [splice]; omega)) : P ∧ Q := ⟨h, k⟩
theorem lk_D4 {α : Type} {o : Option α} {K : α → Prop} {x : α} (k : K x) (h : o = some x := by first | exact watA (by omega) | exact watA' (by omega) | exact hDA (by omega) | exact hDA' (by omega) | exact gutA (by omega) | exact pipeA (by omega) | exact pipeB (by omega) | exact pipeSA (by omega) | exact pipeSB (by omega) | exact intA (by omega) | exact intA' (by omega)) : optK o K := optK_of h k
theorem sc_D4 {P : Program} {g : FuncId} {args args' : List D} {res : D} (h : Sat P g args res) (e : args' = args := by repeat (first | rfl | exact vfull (by first | (simp [splice]; done) | (simp [splice]; omega)) | exact rfull (by first | (simp [splice]; done) | (simp [splice]; omega)) | exact vpipe (by simp; done) (by omega) | exact vsplice (by simp) (by simp) | refine ceq ?_ ?_ | refine Eq.trans (vsplice (by first | (simp; done) | (simp; omega)) (by first | (simp; done) | (simp; omega))) ?_)) : Sat P g args' res := Sat.of_eq h e
theorem hold_D4 {P : Prop} (h : P := by (repeat' (first | exact trivial | apply And.intro)) <;> (first | rfl | exact succ8 (by omega) | exact succ64 (by omega) | exact CapOk.fn (by assumption) _ _ | exact vintS (by omega) | exact vintS (by rw [w64 (by omega) (by omega)]; omega) | exact vintS (by rw [w8 (by omega) (by omega)]; omega) | exact vslcS (by omega) | exact vslcS (by simp))) : P := h
end Go.V
namespace Go.V
theorem pipeSA {ps : List (Int × Int)} {i : Nat} {x y : Value} (h : i < ps.length) : nth (splice [x, y] 0 (((pipesC ps).drop ((i : Int).toNat * 2)).take 2)) 0 = some (.int .i8 (px ps i).1) := by
  rw [show (i : Int).toNat * 2 = i * 2 by simp, pipe_sub h]; rfl
theorem pipeSB {ps : List (Int × Int)} {i : Nat} {x y : Value} (h : i < ps.length) : nth (splice [x, y] 0 (((pipesC ps).drop ((i : Int).toNat * 2)).take 2)) 1 = some (.int .i16 (px ps i).2) := by
  rw [show (i : Int).toNat * 2 = i * 2 by simp, pipe_sub h]; rfl
end Go.V
namespace Go.Proofs.YtdbhfobnmlogeaaDoor
open Go.V
theorem l06Deep_sat (x : Int) : Sat Tryd.prog 117 [.v (.int .i64 x)] (.v (.bool (deepB x))) := by
  refine sat_of_wp hMix tOk Tryd.func117 rfl rfl Tryd.ntmps117 rfl rfl Tryd.results117 (by kernel_rfl) ?_
  conv => whnf
  repeat (first | (refine go_D4 ?_; conv => whnf) | (refine lk_D4 ?_; conv => whnf))
  first | refine ⟨_, _, rfl, sc_D4 (l00In_sat _ _ _), ?_⟩ | refine .inl ⟨_, _, rfl, sc_D4 (l00In_sat _ _ _), ?_⟩
  conv => whnf
  repeat (first | (refine go_D4 ?_; conv => whnf) | (refine lk_D4 ?_; conv => whnf))
  first | refine ⟨rfl, _, rfl, ?_⟩ | refine ⟨_, rfl, ?_⟩
  rfl
theorem isDeep16_sat (x : Int) (hx : -32768 ≤ x ∧ x ≤ 32767) : Sat Tryd.prog 121 [.v (.int .i16 x)] (.v (.bool (deepB x))) := by
  refine sat_of_wp hMix tOk Tryd.func121 rfl rfl Tryd.ntmps121 rfl rfl Tryd.results121 (by kernel_rfl) ?_
  conv => whnf
  repeat (first | (refine go_D4 ?_; conv => whnf) | (refine lk_D4 ?_; conv => whnf))
  rw [show IntKind.i64.wrap x = x from w64 (by omega) (by omega)]
  first | refine ⟨_, _, rfl, sc_D4 (within64_sat _ _ _), ?_⟩ | refine .inl ⟨_, _, rfl, sc_D4 (within64_sat _ _ _), ?_⟩
  conv => whnf
  repeat (first | (refine go_D4 ?_; conv => whnf) | (refine lk_D4 ?_; conv => whnf))
  first | refine ⟨rfl, _, rfl, ?_⟩ | refine ⟨_, rfl, ?_⟩
  rfl
theorem l06Ok_sat (g : Gut) (hg : g.In) : Sat Tryd.prog 60 [.ref false (gutD false g) 0] (.v (.bool (okG g))) := by
  have hn := hg.n
  have hdp := hg.dp
  have en : IntKind.i64.wrap g.n = g.n := w64 (by omega) (by omega)
  have ed : IntKind.i64.wrap g.dp = g.dp := w64 (by omega) (by omega)
  refine sat_of_wp hMix tOk Tryd.func60 rfl rfl Tryd.ntmps60 rfl rfl Tryd.results60 (by kernel_rfl) ?_
  conv => whnf
  repeat (first | (refine go_D4 ?_; conv => whnf) | (refine lk_D4 ?_; conv => whnf))
  rw [en]
  first | refine ⟨_, _, rfl, sc_D4 (l00In_sat _ _ _), ?_⟩ | refine .inl ⟨_, _, rfl, sc_D4 (l00In_sat _ _ _), ?_⟩
  conv => whnf
  repeat (first | (refine go_D4 ?_; conv => whnf) | (refine lk_D4 ?_; conv => whnf))
  cases h1 : (decide (g.n ≥ 1) && decide (g.n ≤ 17))
  · rw [show okG g = false by unfold okG okG0; rw [show (decide (1 ≤ g.n) && decide (g.n ≤ 17)) = false from h1]; rfl]
    conv => whnf
    repeat (first | (refine go_D4 ?_; conv => whnf) | (refine lk_D4 ?_; conv => whnf))
    first | refine ⟨rfl, _, rfl, ?_⟩ | refine ⟨_, rfl, ?_⟩
    rfl
  have h1' : 1 ≤ g.n ∧ g.n ≤ 17 := by simpa using h1
  have eu : IntKind.u64.wrap g.n = g.n := wu64 (by omega) (by omega)
  conv => whnf
  repeat (first | (refine go_D4 ?_; conv => whnf) | (refine lk_D4 ?_; conv => whnf))
  rw [ed]
  first | refine ⟨_, _, rfl, sc_D4 (l06Deep_sat _), ?_⟩ | refine .inl ⟨_, _, rfl, sc_D4 (l06Deep_sat _), ?_⟩
  conv => whnf
  repeat (first | (refine go_D4 ?_; conv => whnf) | (refine lk_D4 ?_; conv => whnf))
  cases h2 : deepB g.dp
  · rw [show okG g = false by unfold okG okG0; rw [show (decide (1 ≤ g.n) && decide (g.n ≤ 17)) = true from h1, h2]; rfl]
    conv => whnf
    repeat (first | (refine go_D4 ?_; conv => whnf) | (refine lk_D4 ?_; conv => whnf))
    first | refine ⟨rfl, _, rfl, ?_⟩ | refine ⟨_, rfl, ?_⟩
    rfl
  conv => whnf
  repeat (first | (refine go_D4 ?_; conv => whnf) | (refine lk_D4 ?_; conv => whnf))
  rw [eu]
  repeat (first | (refine go_D4 ?_; conv => whnf) | (refine lk_D4 ?_; conv => whnf))
  cases h3 : (g.lv.fdiv (2 ^ (min g.n.toNat IntKind.u32.bits)) != 0)
  case true =>
    have h3' : (g.lv.fdiv (2 ^ (min g.n.toNat IntKind.u32.bits)) == 0) = false := by simpa using h3
    rw [show okG g = false by unfold okG okG0; rw [show (decide (1 ≤ g.n) && decide (g.n ≤ 17)) = true from h1, h2, h3']; rfl]
    conv => whnf
    repeat (first | (refine go_D4 ?_; conv => whnf) | (refine lk_D4 ?_; conv => whnf))
    first | refine ⟨rfl, _, rfl, ?_⟩ | refine ⟨_, rfl, ?_⟩
    rfl
  have h3' : (g.lv.fdiv (2 ^ (min g.n.toNat IntKind.u32.bits)) == 0) = true := by simpa using h3
  conv => whnf
  repeat (first | (refine go_D4 ?_; conv => whnf) | (refine lk_D4 ?_; conv => whnf))
  cases h4 : decide ((g.ps.length : Int) > 4)
  case true =>
    have h4' : decide (g.ps.length ≤ 4) = false := by simp at h4 ⊢; omega
    rw [show okG g = false by unfold okG okG0; rw [show (decide (1 ≤ g.n) && decide (g.n ≤ 17)) = true from h1, h2, h3', h4']; rfl]
    conv => whnf
    repeat (first | (refine go_D4 ?_; conv => whnf) | (refine lk_D4 ?_; conv => whnf))
    first | refine ⟨rfl, _, rfl, ?_⟩ | refine ⟨_, rfl, ?_⟩
    rfl
  have h4' : g.ps.length ≤ 4 := by simp at h4; omega
  have h0 : okG0 g = true := by unfold okG0; rw [show (decide (1 ≤ g.n) && decide (g.n ≤ 17)) = true from h1, h2, h3']; simpa using h4'
  clear h1 h2 h3 h3' h4
  conv => whnf
  repeat (first | (refine go_D4 ?_; conv => whnf) | (refine lk_D4 ?_; conv => whnf))
  refine loop_rule (α := Nat) (fun k => [(0, .ref false (gutD false g) 0), (3, .v (.int .i8 k))]) (fun k => []) (fun k => k ≤ 17 ∧ ∀ j, j < k → hOk g j = true) (fun k => 17 - k) (0) ?_ (sim_of (rn := []) rfl ?_ ?_) ?_
  · exact ⟨Nat.zero_le _, fun j hj => by omega⟩
  · exact hold_D4
  · ((repeat' (first | exact trivial | apply And.intro)) <;> ((first | refine ⟨_, _, rfl, rfl, ?_⟩ ); rfl))
  rintro k ⟨hk, hall⟩
  conv => whnf
  repeat (first | (refine go_D4 ?_; conv => whnf) | (refine lk_D4 ?_; conv => whnf))
  cases h5 : decide ((k : Int) < 17)
  case true =>
    have hk17 : k < 17 := by simp at h5; omega
    have hhk := hg.h k
    have eh : IntKind.i64.wrap (g.h k) = g.h k := w64 (by omega) (by omega)
    conv => whnf
    repeat (first | (refine go_D4 ?_; conv => whnf) | (refine lk_D4 ?_; conv => whnf))
    rw [eh]
    first | refine ⟨_, _, rfl, sc_D4 (l00In_sat _ _ _), ?_⟩ | refine .inl ⟨_, _, rfl, sc_D4 (l00In_sat _ _ _), ?_⟩
    conv => whnf
    repeat (first | (refine go_D4 ?_; conv => whnf) | (refine lk_D4 ?_; conv => whnf))
    cases h6 : (decide (g.h k ≥ 0) && decide (g.h k ≤ 9))
    · have hb : hOk g k = false := by unfold hOk; rw [show (decide (0 ≤ g.h k) && decide (g.h k ≤ 9)) = false from h6]; rfl
      rw [show okG g = false by unfold okG; rw [h0, allN_false hk17 hb]; rfl]
      conv => whnf
      repeat (first | (refine go_D4 ?_; conv => whnf) | (refine lk_D4 ?_; conv => whnf))
      first | refine ⟨rfl, _, rfl, ?_⟩ | refine ⟨_, rfl, ?_⟩
      rfl
    conv => whnf
    repeat (first | (refine go_D4 ?_; conv => whnf) | (refine lk_D4 ?_; conv => whnf))
    cases h7 : decide ((k : Int) ≥ g.n)
    · have hb : hOk g k = true := by
        unfold hOk
        rw [show (decide (0 ≤ g.h k) && decide (g.h k ≤ 9)) = true from h6, show decide ((k : Int) < g.n) = true by simp at h7 ⊢; omega]
        rfl
      have hall' := below_succ (p := fun j => hOk g j = true) hall hb
      conv => whnf
      repeat (first | (refine go_D4 ?_; conv => whnf) | (refine lk_D4 ?_; conv => whnf))
      refine ⟨k + 1, ?_, ?_, sim_of (rn := []) rfl ?_ ?_⟩
      · (dsimp only; omega)
      · exact ⟨by omega, hall'⟩
      · exact hold_D4
      · ((repeat' (first | exact trivial | apply And.intro)) <;> ((first | refine ⟨_, _, rfl, rfl, ?_⟩ ); rfl))
    have h7' : decide ((k : Int) < g.n) = false := by simp at h7 ⊢; omega
    conv => whnf
    repeat (first | (refine go_D4 ?_; conv => whnf) | (refine lk_D4 ?_; conv => whnf))
    cases h8 : (g.h k != 0)
    · have hb : hOk g k = true := by
        unfold hOk
        rw [show (decide (0 ≤ g.h k) && decide (g.h k ≤ 9)) = true from h6, h7']
        simpa using h8
      have hall' := below_succ (p := fun j => hOk g j = true) hall hb
      conv => whnf
      repeat (first | (refine go_D4 ?_; conv => whnf) | (refine lk_D4 ?_; conv => whnf))
      refine ⟨k + 1, ?_, ?_, sim_of (rn := []) rfl ?_ ?_⟩
      · (dsimp only; omega)
      · exact ⟨by omega, hall'⟩
      · exact hold_D4
      · ((repeat' (first | exact trivial | apply And.intro)) <;> ((first | refine ⟨_, _, rfl, rfl, ?_⟩ ); rfl))
    have hb : hOk g k = false := by
      unfold hOk
      rw [show (decide (0 ≤ g.h k) && decide (g.h k ≤ 9)) = true from h6, h7']
      simpa using h8
    rw [show okG g = false by unfold okG; rw [h0, allN_false hk17 hb]; rfl]
    conv => whnf
    repeat (first | (refine go_D4 ?_; conv => whnf) | (refine lk_D4 ?_; conv => whnf))
    first | refine ⟨rfl, _, rfl, ?_⟩ | refine ⟨_, rfl, ?_⟩
    rfl
  have hk17 : k = 17 := by simp at h5; omega
  subst hk17
  have hH : (List.range 17).all (hOk g) = true := allN_iff.2 hall
  clear hall h5
  conv => whnf
  repeat (first | (refine go_D4 ?_; conv => whnf) | (refine lk_D4 ?_; conv => whnf))
  refine loop_rule (α := Nat) (fun i => [(0, .ref false (gutD false g) 0), (4, .v (.int .i64 i))]) (fun i => []) (fun i => i ≤ g.ps.length ∧ ∀ j, j < i → pOk g j = true) (fun i => g.ps.length - i) (0) ?_ (sim_of (rn := []) rfl ?_ ?_) ?_
  · exact ⟨Nat.zero_le _, fun j hj => by omega⟩
  · exact hold_D4
  · ((repeat' (first | exact trivial | apply And.intro)) <;> ((first | refine ⟨_, _, rfl, rfl, ?_⟩ ); rfl))
  rintro i ⟨hi, hall⟩
  conv => whnf
  repeat (first | (refine go_D4 ?_; conv => whnf) | (refine lk_D4 ?_; conv => whnf))
  cases h5 : decide ((i : Int) < (g.ps.length : Int))
  · have hin : i = g.ps.length := by simp at h5; omega
    subst hin
    rw [show okG g = true by unfold okG; rw [h0, hH, allN_iff.2 hall]; rfl]
    conv => whnf
    repeat (first | (refine go_D4 ?_; conv => whnf) | (refine lk_D4 ?_; conv => whnf))
    first | refine ⟨rfl, _, rfl, ?_⟩ | refine ⟨_, rfl, ?_⟩
    rfl
  have hin : i < g.ps.length := by simpa using h5
  have hp := hg.ps i hin
  have et : IntKind.i64.wrap (px g.ps i).2 = (px g.ps i).2 := w64 (by omega) (by omega)
  have bad : pOk g i = false → okG g = false := fun hb => by unfold okG; rw [h0, hH, allN_false hin hb]; rfl
  conv => whnf
  repeat (first | (refine go_D4 ?_; conv => whnf) | (refine lk_D4 ?_; conv => whnf))
  cases h6 : decide ((px g.ps i).1 < 0)
  case true =>
    rw [bad (by unfold pOk; rw [show decide (0 ≤ (px g.ps i).1) = false by simp at h6 ⊢; omega]; rfl)]
    conv => whnf
    repeat (first | (refine go_D4 ?_; conv => whnf) | (refine lk_D4 ?_; conv => whnf))
    first | refine ⟨rfl, _, rfl, ?_⟩ | refine ⟨_, rfl, ?_⟩
    rfl
  have h6' : decide (0 ≤ (px g.ps i).1) = true := by simp at h6 ⊢; omega
  conv => whnf
  repeat (first | (refine go_D4 ?_; conv => whnf) | (refine lk_D4 ?_; conv => whnf))
  cases h7 : decide ((px g.ps i).1 ≥ g.n)
  case true =>
    rw [bad (by unfold pOk; rw [h6', show decide ((px g.ps i).1 ≤ g.n - 1) = false by simp at h7 ⊢; omega]; rfl)]
    conv => whnf
    repeat (first | (refine go_D4 ?_; conv => whnf) | (refine lk_D4 ?_; conv => whnf))
    first | refine ⟨rfl, _, rfl, ?_⟩ | refine ⟨_, rfl, ?_⟩
    rfl
  have h7' : decide ((px g.ps i).1 ≤ g.n - 1) = true := by simp at h7 ⊢; omega
  conv => whnf
  repeat (first | (refine go_D4 ?_; conv => whnf) | (refine lk_D4 ?_; conv => whnf))
  rw [et]
  first | refine ⟨_, _, rfl, sc_D4 (l06Deep_sat _), ?_⟩ | refine .inl ⟨_, _, rfl, sc_D4 (l06Deep_sat _), ?_⟩
  conv => whnf
  repeat (first | (refine go_D4 ?_; conv => whnf) | (refine lk_D4 ?_; conv => whnf))
  cases h8 : deepB (px g.ps i).2
  · rw [bad (by unfold pOk; rw [h6', h7', h8]; rfl)]
    conv => whnf
    repeat (first | (refine go_D4 ?_; conv => whnf) | (refine lk_D4 ?_; conv => whnf))
    first | refine ⟨rfl, _, rfl, ?_⟩ | refine ⟨_, rfl, ?_⟩
    rfl
  conv => whnf
  repeat (first | (refine go_D4 ?_; conv => whnf) | (refine lk_D4 ?_; conv => whnf))
  cases h9 : decide ((i : Int) > 0)
  · have hb : pOk g i = true := by
      unfold pOk
      have : i = 0 := by simp at h9; omega
      rw [h6', h7', h8, this]; rfl
    have hall' := below_succ (p := fun j => pOk g j = true) hall hb
    conv => whnf
    repeat (first | (refine go_D4 ?_; conv => whnf) | (refine lk_D4 ?_; conv => whnf))
    refine ⟨i + 1, ?_, ?_, sim_of (rn := []) rfl ?_ ?_⟩
    · (dsimp only; omega)
    · exact ⟨by omega, hall'⟩
    · exact hold_D4
    · ((repeat' (first | exact trivial | apply And.intro)) <;> ((first | refine ⟨_, _, rfl, rfl, ?_⟩ ); rfl))
  have hi0 : 0 < i := by simp at h9; omega
  have hi0' : (i == 0) = false := by simp; omega
  have ei : IntKind.i64.wrap ((i : Int) - 1) = ((i - 1 : Nat) : Int) := by rw [w64 (by omega) (by omega)]; omega
  conv => whnf
  repeat (first | (refine go_D4 ?_; conv => whnf) | (refine lk_D4 ?_; conv => whnf))
  rw [ei]
  repeat (first | (refine go_D4 ?_; conv => whnf) | (refine lk_D4 ?_; conv => whnf))
  cases h10 : decide ((px g.ps i).1 ≤ (px g.ps (i - 1)).1)
  · have hb : pOk g i = true := by
      unfold pOk
      rw [h6', h7', h8, hi0', show decide ((px g.ps (i - 1)).1 < (px g.ps i).1) = true by simp at h10 ⊢; omega]; rfl
    have hall' := below_succ (p := fun j => pOk g j = true) hall hb
    conv => whnf
    repeat (first | (refine go_D4 ?_; conv => whnf) | (refine lk_D4 ?_; conv => whnf))
    refine ⟨i + 1, ?_, ?_, sim_of (rn := []) rfl ?_ ?_⟩
    · (dsimp only; omega)
    · exact ⟨by omega, hall'⟩
    · exact hold_D4
    · ((repeat' (first | exact trivial | apply And.intro)) <;> ((first | refine ⟨_, _, rfl, rfl, ?_⟩ ); rfl))
  rw [bad (by unfold pOk; rw [h6', h7', h8, hi0', show decide ((px g.ps (i - 1)).1 < (px g.ps i).1) = false by simp at h10 ⊢; omega]; rfl)]
  conv => whnf
  repeat (first | (refine go_D4 ?_; conv => whnf) | (refine lk_D4 ?_; conv => whnf))
  first | refine ⟨rfl, _, rfl, ?_⟩ | refine ⟨_, rfl, ?_⟩
  rfl
theorem validGutter_sat (g : Gut) (hg : g.In) : Sat Tryd.prog 64 [gutD false g] (.v (.bool (okG g))) := by
  have hn := hg.n
  have hdp := hg.dp
  have en : IntKind.i64.wrap g.n = g.n := w64 (by omega) (by omega)
  refine sat_of_wp hMix tOk Tryd.func64 rfl rfl Tryd.ntmps64 rfl rfl Tryd.results64 (by kernel_rfl) ?_
  conv => whnf
  repeat (first | (refine go_D4 ?_; conv => whnf) | (refine lk_D4 ?_; conv => whnf))
  first | refine ⟨_, _, rfl, sc_D4 (within8_sat _ _ _), ?_⟩ | refine .inl ⟨_, _, rfl, sc_D4 (within8_sat _ _ _), ?_⟩
  conv => whnf
  repeat (first | (refine go_D4 ?_; conv => whnf) | (refine lk_D4 ?_; conv => whnf))
  cases h1 : (decide (1 ≤ g.n) && decide (g.n ≤ 17))
  · rw [show okG g = false by unfold okG okG0; rw [h1]; rfl]
    conv => whnf
    repeat (first | (refine go_D4 ?_; conv => whnf) | (refine lk_D4 ?_; conv => whnf))
    first | refine ⟨rfl, _, rfl, ?_⟩ | refine ⟨_, rfl, ?_⟩
    rfl
  have h1' : 1 ≤ g.n ∧ g.n ≤ 17 := by simpa using h1
  conv => whnf
  repeat (first | (refine go_D4 ?_; conv => whnf) | (refine lk_D4 ?_; conv => whnf))
  first | refine ⟨_, _, rfl, sc_D4 (isDeep16_sat _ hdp), ?_⟩ | refine .inl ⟨_, _, rfl, sc_D4 (isDeep16_sat _ hdp), ?_⟩
  conv => whnf
  repeat (first | (refine go_D4 ?_; conv => whnf) | (refine lk_D4 ?_; conv => whnf))
  cases h2 : deepB g.dp
  · rw [show okG g = false by unfold okG okG0; rw [h1, h2]; rfl]
    conv => whnf
    repeat (first | (refine go_D4 ?_; conv => whnf) | (refine lk_D4 ?_; conv => whnf))
    first | refine ⟨rfl, _, rfl, ?_⟩ | refine ⟨_, rfl, ?_⟩
    rfl
  conv => whnf
  repeat (first | (refine go_D4 ?_; conv => whnf) | (refine lk_D4 ?_; conv => whnf))
  cases h3 : (g.lv.fdiv (2 ^ (min g.n.toNat IntKind.u32.bits)) != 0)
  case true =>
    have h3' : (g.lv.fdiv (2 ^ (min g.n.toNat IntKind.u32.bits)) == 0) = false := by simpa using h3
    rw [show okG g = false by unfold okG okG0; rw [h1, h2, h3']; rfl]
    conv => whnf
    repeat (first | (refine go_D4 ?_; conv => whnf) | (refine lk_D4 ?_; conv => whnf))
    first | refine ⟨rfl, _, rfl, ?_⟩ | refine ⟨_, rfl, ?_⟩
    rfl
  have h3' : (g.lv.fdiv (2 ^ (min g.n.toNat IntKind.u32.bits)) == 0) = true := by simpa using h3
  conv => whnf
  repeat (first | (refine go_D4 ?_; conv => whnf) | (refine lk_D4 ?_; conv => whnf))
  cases h4 : decide ((g.ps.length : Int) > 4)
  case true =>
    have h4' : decide (g.ps.length ≤ 4) = false := by simp at h4 ⊢; omega
    rw [show okG g = false by unfold okG okG0; rw [h1, h2, h3', h4']; rfl]
    conv => whnf
    repeat (first | (refine go_D4 ?_; conv => whnf) | (refine lk_D4 ?_; conv => whnf))
    first | refine ⟨rfl, _, rfl, ?_⟩ | refine ⟨_, rfl, ?_⟩
    rfl
  have h4' : g.ps.length ≤ 4 := by simp at h4; omega
  have h0 : okG0 g = true := by unfold okG0; rw [h1, h2, h3']; simpa using h4'
  clear h1 h2 h3 h3' h4
  conv => whnf
  repeat (first | (refine go_D4 ?_; conv => whnf) | (refine lk_D4 ?_; conv => whnf))
  refine loop_rule (α := Nat) (fun k => [(1, .ptr (1, 0, 0) 0), (32, .agg (hD g.h)), (33, .v (.int .i64 k))]) (fun k => [((1, 0, 0), gutD false g)]) (fun k => k ≤ 17 ∧ ∀ j, j < k → hOk g j = true) (fun k => 17 - k) (0) ?_ (sim_of (rn := [((1, 0, 0), (1, 0, 0))]) rfl ?_ ?_) ?_
  · exact ⟨Nat.zero_le _, fun j hj => by omega⟩
  · exact hold_D4
  · ((repeat' (first | exact trivial | apply And.intro)) <;> ((first | refine ⟨_, _, rfl, rfl, ?_⟩ ); rfl))
  rintro k ⟨hk, hall⟩
  conv => whnf
  repeat (first | (refine go_D4 ?_; conv => whnf) | (refine lk_D4 ?_; conv => whnf))
  cases h5 : decide ((k : Int) < 17)
  case true =>
    have hk17 : k < 17 := by simp at h5; omega
    conv => whnf
    repeat (first | (refine go_D4 ?_; conv => whnf) | (refine lk_D4 ?_; conv => whnf))
    first | refine ⟨_, _, rfl, sc_D4 (within8_sat _ _ _), ?_⟩ | refine .inl ⟨_, _, rfl, sc_D4 (within8_sat _ _ _), ?_⟩
    conv => whnf
    repeat (first | (refine go_D4 ?_; conv => whnf) | (refine lk_D4 ?_; conv => whnf))
    cases h6 : (decide (0 ≤ g.h k) && decide (g.h k ≤ 9))
    · have hb : hOk g k = false := by unfold hOk; rw [h6]; rfl
      rw [show okG g = false by unfold okG; rw [h0, allN_false hk17 hb]; rfl]
      conv => whnf
      repeat (first | (refine go_D4 ?_; conv => whnf) | (refine lk_D4 ?_; conv => whnf))
      first | refine ⟨rfl, _, rfl, ?_⟩ | refine ⟨_, rfl, ?_⟩
      rfl
    conv => whnf
    repeat (first | (refine go_D4 ?_; conv => whnf) | (refine lk_D4 ?_; conv => whnf))
    cases h8 : (g.h k != 0)
    · have hb : hOk g k = true := by
        unfold hOk
        rw [h6, show (g.h k == 0) = true by simpa using h8]
        simp
      have hall' := below_succ (p := fun j => hOk g j = true) hall hb
      conv => whnf
      repeat (first | (refine go_D4 ?_; conv => whnf) | (refine lk_D4 ?_; conv => whnf))
      refine ⟨k + 1, ?_, ?_, sim_of (rn := [((1, 0, 0), (1, 0, 0))]) rfl ?_ ?_⟩
      · (dsimp only; omega)
      · exact ⟨by omega, hall'⟩
      · exact hold_D4
      · ((repeat' (first | exact trivial | apply And.intro)) <;> ((first | refine ⟨_, _, rfl, rfl, ?_⟩ ); rfl))
    conv => whnf
    repeat (first | (refine go_D4 ?_; conv => whnf) | (refine lk_D4 ?_; conv => whnf))
    rw [en]
    cases h7 : decide ((k : Int) ≥ g.n)
    · have hb : hOk g k = true := by
        unfold hOk
        rw [h6, show decide ((k : Int) < g.n) = true by simp at h7 ⊢; omega]
        rfl
      have hall' := below_succ (p := fun j => hOk g j = true) hall hb
      conv => whnf
      repeat (first | (refine go_D4 ?_; conv => whnf) | (refine lk_D4 ?_; conv => whnf))
      refine ⟨k + 1, ?_, ?_, sim_of (rn := [((1, 0, 0), (1, 0, 0))]) rfl ?_ ?_⟩
      · (dsimp only; omega)
      · exact ⟨by omega, hall'⟩
      · exact hold_D4
      · ((repeat' (first | exact trivial | apply And.intro)) <;> ((first | refine ⟨_, _, rfl, rfl, ?_⟩ ); rfl))
    have hb : hOk g k = false := by
      unfold hOk
      rw [h6, show decide ((k : Int) < g.n) = false by simp at h7 ⊢; omega]
      simpa using h8
    rw [show okG g = false by unfold okG; rw [h0, allN_false hk17 hb]; rfl]
    conv => whnf
    repeat (first | (refine go_D4 ?_; conv => whnf) | (refine lk_D4 ?_; conv => whnf))
    first | refine ⟨rfl, _, rfl, ?_⟩ | refine ⟨_, rfl, ?_⟩
    rfl
  have hk17 : k = 17 := by simp at h5; omega
  subst hk17
  have hH : (List.range 17).all (hOk g) = true := allN_iff.2 hall
  clear hall h5
  have en1 : IntKind.i8.wrap (g.n - 1) = g.n - 1 := w8 (by omega) (by omega)
  conv => whnf
  repeat (first | (refine go_D4 ?_; conv => whnf) | (refine lk_D4 ?_; conv => whnf))
  refine loop_rule (α := Nat) (fun i => [(1, .ptr (1, 0, 0) 0), (53, pipesD false g.ps), (54, .v (.int .i64 g.ps.length)), (55, .v (.int .i64 i))]) (fun i => [((1, 0, 0), gutD false g)]) (fun i => i ≤ g.ps.length ∧ ∀ j, j < i → pOk g j = true) (fun i => g.ps.length - i) (0) ?_ (sim_of (rn := [((1, 0, 0), (1, 0, 0))]) rfl ?_ ?_) ?_
  · exact ⟨Nat.zero_le _, fun j hj => by omega⟩
  · exact hold_D4
  · ((repeat' (first | exact trivial | apply And.intro)) <;> ((first | refine ⟨_, _, rfl, rfl, ?_⟩ ); rfl))
  rintro i ⟨hi, hall⟩
  conv => whnf
  repeat (first | (refine go_D4 ?_; conv => whnf) | (refine lk_D4 ?_; conv => whnf))
  cases h5 : decide ((i : Int) < (g.ps.length : Int))
  · have hin : i = g.ps.length := by simp at h5; omega
    subst hin
    rw [show okG g = true by unfold okG; rw [h0, hH, allN_iff.2 hall]; rfl]
    conv => whnf
    repeat (first | (refine go_D4 ?_; conv => whnf) | (refine lk_D4 ?_; conv => whnf))
    first | refine ⟨rfl, _, rfl, ?_⟩ | refine ⟨_, rfl, ?_⟩
    rfl
  have hin : i < g.ps.length := by simpa using h5
  have hp := hg.ps i hin
  have bad : pOk g i = false → okG g = false := fun hb => by unfold okG; rw [h0, hH, allN_false hin hb]; rfl
  conv => whnf
  repeat (first | (refine go_D4 ?_; conv => whnf) | (refine lk_D4 ?_; conv => whnf))
  rw [en1]
  first | refine ⟨_, _, rfl, sc_D4 (within8_sat _ _ _), ?_⟩ | refine .inl ⟨_, _, rfl, sc_D4 (within8_sat _ _ _), ?_⟩
  conv => whnf
  repeat (first | (refine go_D4 ?_; conv => whnf) | (refine lk_D4 ?_; conv => whnf))
  cases h6 : (decide (0 ≤ (px g.ps i).1) && decide ((px g.ps i).1 ≤ g.n - 1))
  · rw [bad (by unfold pOk; rw [h6]; rfl)]
    conv => whnf
    repeat (first | (refine go_D4 ?_; conv => whnf) | (refine lk_D4 ?_; conv => whnf))
    first | refine ⟨rfl, _, rfl, ?_⟩ | refine ⟨_, rfl, ?_⟩
    rfl
  conv => whnf
  repeat (first | (refine go_D4 ?_; conv => whnf) | (refine lk_D4 ?_; conv => whnf))
  first | refine ⟨_, _, rfl, sc_D4 (isDeep16_sat _ hp.2), ?_⟩ | refine .inl ⟨_, _, rfl, sc_D4 (isDeep16_sat _ hp.2), ?_⟩
  conv => whnf
  repeat (first | (refine go_D4 ?_; conv => whnf) | (refine lk_D4 ?_; conv => whnf))
  cases h8 : deepB (px g.ps i).2
  · rw [bad (by unfold pOk; rw [h6, h8]; rfl)]
    conv => whnf
    repeat (first | (refine go_D4 ?_; conv => whnf) | (refine lk_D4 ?_; conv => whnf))
    first | refine ⟨rfl, _, rfl, ?_⟩ | refine ⟨_, rfl, ?_⟩
    rfl
  conv => whnf
  repeat (first | (refine go_D4 ?_; conv => whnf) | (refine lk_D4 ?_; conv => whnf))
  cases h9 : decide ((i : Int) > 0)
  · have hb : pOk g i = true := by
      unfold pOk
      have : i = 0 := by simp at h9; omega
      rw [h6, h8, this]; rfl
    have hall' := below_succ (p := fun j => pOk g j = true) hall hb
    conv => whnf
    repeat (first | (refine go_D4 ?_; conv => whnf) | (refine lk_D4 ?_; conv => whnf))
    refine ⟨i + 1, ?_, ?_, sim_of (rn := [((1, 0, 0), (1, 0, 0))]) rfl ?_ ?_⟩
    · (dsimp only; omega)
    · exact ⟨by omega, hall'⟩
    · exact hold_D4
    · ((repeat' (first | exact trivial | apply And.intro)) <;> ((first | refine ⟨_, _, rfl, rfl, ?_⟩ ); rfl))
  have hi0 : 0 < i := by simp at h9; omega
  have hi0' : (i == 0) = false := by simp; omega
  have ei : IntKind.i64.wrap ((i : Int) - 1) = ((i - 1 : Nat) : Int) := by rw [w64 (by omega) (by omega)]; omega
  conv => whnf
  repeat (first | (refine go_D4 ?_; conv => whnf) | (refine lk_D4 ?_; conv => whnf))
  rw [ei]
  repeat (first | (refine go_D4 ?_; conv => whnf) | (refine lk_D4 ?_; conv => whnf))
  cases h10 : decide ((px g.ps (i - 1)).1 ≥ (px g.ps i).1)
  · have hb : pOk g i = true := by
      unfold pOk
      rw [h6, h8, hi0', show decide ((px g.ps (i - 1)).1 < (px g.ps i).1) = true by simp at h10 ⊢; omega]; rfl
    have hall' := below_succ (p := fun j => pOk g j = true) hall hb
    conv => whnf
    repeat (first | (refine go_D4 ?_; conv => whnf) | (refine lk_D4 ?_; conv => whnf))
    refine ⟨i + 1, ?_, ?_, sim_of (rn := [((1, 0, 0), (1, 0, 0))]) rfl ?_ ?_⟩
    · (dsimp only; omega)
    · exact ⟨by omega, hall'⟩
    · exact hold_D4
    · ((repeat' (first | exact trivial | apply And.intro)) <;> ((first | refine ⟨_, _, rfl, rfl, ?_⟩ ); rfl))
  rw [bad (by unfold pOk; rw [h6, h8, hi0', show decide ((px g.ps (i - 1)).1 < (px g.ps i).1) = false by simp at h10 ⊢; omega]; rfl)]
  conv => whnf
  repeat (first | (refine go_D4 ?_; conv => whnf) | (refine lk_D4 ?_; conv => whnf))
  first | refine ⟨rfl, _, rfl, ?_⟩ | refine ⟨_, rfl, ?_⟩
  rfl
end Go.Proofs.YtdbhfobnmlogeaaDoor
/- Plain words: what a minute does with the water in a gutter. -/
set_option linter.unusedVariables false
set_option linter.unusedSimpArgs false
namespace Go.V
def leafB (g : Gut) (c : Nat) : Bool := IntKind.u32.wrap (BitVec.ofInt IntKind.u32.bits (g.lv.fdiv (2 ^ (min (c : Int).toNat IntKind.u32.bits))) &&& BitVec.ofInt IntKind.u32.bits 1).toNat == 1
def upL (n : Nat) : List Int := (List.range n).map fun i => Int.ofNat i
@[simp] theorem upL_len (n : Nat) : (upL n).length = n := by simp [upL]
theorem upL_next (n : Nat) : upL (n + 1) = upL n ++ [(n : Int)] := by simp [upL, List.range_succ]
theorem upL_ix {n i : Nat} (h : i < n) : ix (upL n) i = (i : Int) := by
  unfold ix upL
  rw [List.getD_eq_getElem?_getD]
  simp [h]
end Go.V
/- Contracts: where water flows, a minute, and several, both sides; the laws. -/
set_option linter.unusedVariables false
set_option linter.unusedSimpArgs false
namespace Go.V
/- Words for the walks of this text: their default arguments are tried where they are used. -/
theorem go_D5 {P Q : Prop} (k : Q) (h : P := by first | exact Nat.le_of_ble_eq_true rfl | exact rfl | decide | omega | (simp [splice]; done) | (constructor <;> omega) | (simp [splice]; omega)) : P ∧ Q := ⟨h, k⟩
theorem lk_D5 {α : Type} {o : Option α} {K : α → Prop} {x : α} (k : K x) (h : o = some x := by first | exact watA (by omega) | exact watA' (by omega) | exact hDA (by omega) | exact hDA' (by omega) | exact gutA (by omega) | exact pipeA (by omega) | exact pipeB (by omega) | exact pipeSA (by omega) | exact pipeSB (by omega) | exact intA (by omega) | exact intA' (by omega)) : optK o K := optK_of h k
theorem sc_D5 {P : Program} {g : FuncId} {args args' : List D} {res : D} (h : Sat P g args res) (e : args' = args := by repeat (first | rfl | exact vfull (by first | (simp [splice]; done) | (simp [splice]; omega)) | exact rfull (by first | (simp [splice]; done) | (simp [splice]; omega)) | exact vpipe (by simp; done) (by omega) | exact vsplice (by simp) (by simp) | refine ceq ?_ ?_ | refine Eq.trans (vsplice (by first | (simp; done) | (simp; omega)) (by first | (simp; done) | (simp; omega))) ?_)) : Sat P g args' res := Sat.of_eq h e
theorem hold_D5 {P : Prop} (h : P := by (repeat' (first | exact trivial | apply And.intro)) <;> (first | rfl | exact succ8 (by omega) | exact succ64 (by omega) | exact CapOk.fn (by assumption) _ _ | exact vintS (by omega) | exact vintS (by rw [w64 (by omega) (by omega)]; omega) | exact vintS (by rw [w8 (by omega) (by omega)]; omega) | exact vslcS (by omega) | exact vslcS (by simp))) : P := h
theorem okt_D5 {P : Prop} (h : P := by first | omega | (dsimp only; omega) | ((repeat' apply And.intro) <;> omega) | (dsimp only; (repeat' apply And.intro) <;> omega) | trivial) : P := h
end Go.V
namespace Go.Proofs.YtdbhfobnmlogeaaDoor
open Go.V
theorem l06Leaf_sat (g : Gut) (c : Nat) (hc : c < 17) : Sat Tryd.prog 119 [.ref false (gutD false g) 0, .v (.int .i64 c)] (.v (.bool (leafB g c))) := by
  have eu : IntKind.u64.wrap (c : Int) = (c : Int) := wu64 (by omega) (by omega)
  refine sat_of_wp hMix tOk Tryd.func119 rfl rfl Tryd.ntmps119 rfl rfl Tryd.results119 (by kernel_rfl) ?_
  conv => whnf
  repeat (first | (refine go_D5 ?_; conv => whnf) | (refine lk_D5 ?_; conv => whnf))
  rw [eu]
  repeat (first | (refine go_D5 ?_; conv => whnf) | (refine lk_D5 ?_; conv => whnf))
  first | refine ⟨rfl, _, rfl, ?_⟩ | refine ⟨_, rfl, ?_⟩
  rfl
theorem upTo_sat (n : Nat) (hn : n ≤ 1048576) : Sat Tryd.prog 155 [.v (.int .i64 n)] (intsD true (upL n)) := by
  refine satN_of_wp hMix tOk Tryd.func155 rfl rfl Tryd.ntmps155 rfl rfl Tryd.results155 (by kernel_rfl) ?_
  conv => whnf
  repeat (first | (refine go_D5 ?_; conv => whnf) | (refine lk_D5 ?_; conv => whnf))
  refine loop_rule (α := Nat) (fun i => [(3, .slc true 1 (12, 0, 0) 0 (upL i).length), (5, .v (.int .i64 n)), (6, .v (.int .i64 i))]) (fun i => [((12, 0, 0), .v (.agg ⟨intsC (upL i)⟩))]) (fun i => i ≤ n) (fun i => n - i) (0) ?_ (sim_of (rn := [((12, 0, 0), nilId)]) rfl ?_ ?_) ?_
  · exact okt_D5
  · exact hold_D5
  · ((repeat' (first | exact trivial | apply And.intro)) <;> ((first | refine ⟨_, _, rfl, rfl, ?_⟩ ); first | rfl | ((exact cset intsC_nil.symm))))
  intro i hi
  have hul := upL_len i
  conv => whnf
  repeat (first | (refine go_D5 ?_; conv => whnf) | (refine lk_D5 ?_; conv => whnf))
  cases h : decide ((i : Int) < (n : Int))
  · have hin : i = n := by simp at h; omega
    subst hin
    conv => whnf
    repeat (first | (refine go_D5 ?_; conv => whnf) | (refine lk_D5 ?_; conv => whnf))
    first | refine ⟨rfl, _, rfl, [_], rfl, ?_, rfl⟩ | refine ⟨_, rfl, [_], rfl, ?_, rfl⟩
    ((repeat' (first | exact trivial | apply And.intro)) <;> first | exact .inl rfl | exact .inr ⟨rfl, rfl⟩)
  have hin : i < n := by simpa using h
  conv => whnf
  repeat (first | (refine go_D5 ?_; conv => whnf) | (refine lk_D5 ?_; conv => whnf))
  have e2 : intsC (upL i) ++ [.int .i64 (i : Int)] = intsC (upL (i + 1)) := by rw [upL_next, intsC_append, intsC_one]
  refine ⟨i + 1, ?_, ?_, sim_of (rn := [((12, 0, 0), (12, 1, 0))]) rfl ?_ ?_⟩
  · (dsimp only; omega)
  · exact okt_D5
  · exact hold_D5
  · ((repeat' (first | exact trivial | apply And.intro)) <;> ((first | refine ⟨_, _, rfl, rfl, ?_⟩ ); first | rfl | (exact cset e2)))
theorem gcells_sat (g : Gut) (ho : g.Ok) : Sat Tryd.prog 123 [gutD false g] (intsD true (upL g.n.toNat)) := by
  have hn := ho.n
  refine sat_of_wp hMix tOk Tryd.func123 rfl rfl Tryd.ntmps123 rfl rfl Tryd.results123 (by kernel_rfl) ?_
  conv => whnf
  repeat (first | (refine go_D5 ?_; conv => whnf) | (refine lk_D5 ?_; conv => whnf))
  rw [show IntKind.i64.wrap g.n = ((g.n.toNat : Nat) : Int) by rw [w64 (by omega) (by omega)]; omega]
  first | refine ⟨_, _, rfl, sc_D5 (upTo_sat g.n.toNat (by omega)), ?_⟩ | refine .inl ⟨_, _, rfl, sc_D5 (upTo_sat g.n.toNat (by omega)), ?_⟩
  conv => whnf
  repeat (first | (refine go_D5 ?_; conv => whnf) | (refine lk_D5 ?_; conv => whnf))
  first | refine ⟨rfl, _, rfl, ?_⟩ | refine ⟨_, rfl, ?_⟩
  rfl
end Go.Proofs.YtdbhfobnmlogeaaDoor
/- Contracts: a minute, and several, both sides; the laws. -/
set_option linter.unusedVariables false
set_option linter.unusedSimpArgs false
namespace Go.V
end Go.V
namespace Go.Proofs.YtdbhfobnmlogeaaDoor
open Go.V
end Go.Proofs.YtdbhfobnmlogeaaDoor
/- Plain words: the first least of a list; a gutter without leaves in a cell. -/
set_option linter.unusedVariables false
set_option linter.unusedSimpArgs false
namespace Go.V
def nx (ls : List Nat) (i : Nat) : Nat := ls.getD i 0
def toI (ls : List Nat) : List Int := ls.map Int.ofNat
@[simp] theorem toI_len (ls : List Nat) : (toI ls).length = ls.length := by simp [toI]
end Go.V
/- Contracts: the cell whose leaves are best taken away, both sides, and the law. -/
set_option linter.unusedVariables false
set_option linter.unusedSimpArgs false
namespace Go.V
end Go.V
namespace Go.Proofs.YtdbhfobnmlogeaaDoor
open Go.V
end Go.Proofs.YtdbhfobnmlogeaaDoor
/- Plain words: rain that runs down a roof. -/
set_option linter.unusedVariables false
set_option linter.unusedSimpArgs false
namespace Go.V
/-- Rain. -/
def raiC (w : Nat → Int) : List Value := tab 17 fun i => .int .i16 (w i)
@[simp] theorem raiC_len (w : Nat → Int) : (raiC w).length = 17 := by simp [raiC]
theorem raiN {w : Nat → Int} {o i : Nat} (ho : o = i) (h : i < 17) : nth (raiC w) o = some (.int .i16 (w i)) := by subst ho; unfold raiC; rw [nth_tab h]
theorem raiA {w : Nat → Int} {i : Nat} (h : i < 17) : nth (raiC w) (0 + (i : Int).toNat * 1) = some (.int .i16 (w i)) := raiN (by simp) h
theorem raiA' {w : Nat → Int} {i : Nat} (h : i < 17) : nth (raiC w) ((i : Int).toNat * 1) = some (.int .i16 (w i)) := raiN (by simp) h
/-- What drips: eight courses of seventeen cells. -/
def dripC (f : Nat → Nat → Int) : List Value := tab 136 fun k => .int .i32 (f (k / 17) (k % 17))
@[simp] theorem dripC_len (f : Nat → Nat → Int) : (dripC f).length = 136 := by simp [dripC]
/-- Which tile covers a cell of a course, and of what kind it is. -/
def shN (r : Roof) (i : Nat) : Nat := (i + r.s.toNat) % 2
def tlI (r : Roof) (i c : Nat) : Int := if c < shN r i then -1 else if (((c - shN r i) / 2 : Nat) : Int) < r.w then (((c - shN r i) / 2 : Nat) : Int) else -1
def ovI (r : Roof) (i c : Nat) : Int := if tlI r i c < 0 then 0 else r.t i (tlI r i c).toNat
def drI (r : Roof) (i c : Nat) (n : Int) : Int :=
  if ovI r i c = 1 then (n + 1).tdiv 2 else if ovI r i c = 2 then (n + 2).tdiv 3 else if ovI r i c = 3 then (if 0 < i ∧ ovI r (i - 1) c = 2 then 0 else n) else 0
theorem tlI_range (r : Roof) (i c : Nat) : -1 ≤ tlI r i c ∧ (tlI r i c < 0 ∨ tlI r i c < r.w) := by
  unfold tlI
  split
  · omega
  · split <;> omega
def wtI (r : Roof) (w : Nat → Int) (c : Nat) : Nat → Int
  | 0 => w c
  | i + 1 => wtI r w c i - drI r i c (wtI r w c i)
def onR (r : Roof) (i c : Nat) : Prop := (i : Int) < r.h ∧ (c : Int) < 2 * r.w + 1
instance (r : Roof) (i c : Nat) : Decidable (onR r i c) := by unfold onR; exact inferInstance
/-- Of a roof and rain: what drips, what comes to each course, what comes to the gutter. -/
def dR (r : Roof) (w : Nat → Int) (i c : Nat) : Int := if onR r i c then drI r i c (wtI r w c i) else 0
def gtL (r : Roof) (w : Nat → Int) (n : Nat) : List Int := (List.range n).map fun c => wtI r w c r.h.toNat
@[simp] theorem gtL_len (r : Roof) (w : Nat → Int) (n : Nat) : (gtL r w n).length = n := by simp [gtL]
/-- The cells of a struct whose head is a table. -/
def dripL (f : Nat → Nat → Int) : List D := (dripC f).map D.v
@[simp] theorem dripL_len (f : Nat → Nat → Int) : (dripL f).length = 136 := by simp [dripL]
end Go.V
namespace Go.Proofs.YtdbhfobnmlogeaaDoor
open Go.V
end Go.Proofs.YtdbhfobnmlogeaaDoor
/- Contracts: rain that runs down a roof, both sides. -/
set_option linter.unusedVariables false
set_option linter.unusedSimpArgs false
namespace Go.V
/- Words for the walks of this text: their default arguments are tried where they are used. -/
end Go.V
namespace Go.V
end Go.V
namespace Go.Proofs.YtdbhfobnmlogeaaDoor
open Go.V
section
variable (r : Roof) (hr : r.In) (hb : (1 ≤ r.w ∧ r.w ≤ 8) ∧ (1 ≤ r.h ∧ r.h ≤ 8) ∧ r.s ≤ 1)
include hr hb
end
end Go.Proofs.YtdbhfobnmlogeaaDoor
/- Contracts: rain that runs down a roof, both sides. -/
set_option linter.unusedVariables false
set_option linter.unusedSimpArgs false
namespace Go.Proofs.YtdbhfobnmlogeaaDoor
open Go.V
end Go.Proofs.YtdbhfobnmlogeaaDoor
/- Plain words: rain that is valid, how much drips in all, the best tile to make whole. -/
set_option linter.unusedVariables false
set_option linter.unusedSimpArgs false
namespace Go.V
def smT (p : Nat → Int) : Nat → Int
  | 0 => 0
  | n + 1 => smT p n + p n
/-- The sum of a table's first rows. -/
def totS (f : Nat → Nat → Int) (n : Nat) : Int := smT (fun i => smT (f i) 17) n
theorem smT_zero {p : Nat → Int} {m : Nat} (h : ∀ i, i < m → p i = 0) : ∀ n, n ≤ m → smT p n = 0
  | 0, _ => rfl
  | n + 1, hn => by simp only [smT, smT_zero h n (by omega), h n (by omega), Int.add_zero]
/-- How much drips in all. -/
def dsI (r : Roof) (w : Nat → Int) : Int := totS (dR r w) 8
/-- How much less drips if a tile is whole. -/
def svI (r : Roof) (w : Nat → Int) (c k : Nat) : Int := dsI r w - dsI (putR r c k 0) w
def wrB (r : Roof) (c k : Nat) : Bool := r.t c k != 0
def wrP (r : Roof) : List Pl := allP r (wrB r)
theorem nthP_mem {ps : List Pl} {i : Nat} (h : i < ps.length) : nthP ps i ∈ ps := List.mem_of_getElem? (nthP_some h)
theorem bestL_mem2 {a : Nat → Nat → Int} {ps : List Pl} : ∀ {i : Nat}, i < ps.length → bestL a ps i ∈ ps
  | 0, h => nthP_mem h
  | i + 1, h => by
    simp only [bestL]
    split
    · exact nthP_mem h
    · exact bestL_mem2 (by omega)
/-- The tile that is best made whole. -/
def bwP (r : Roof) (w : Nat → Int) : Pl := bestL (svI r w) (wrP r) ((wrP r).length - 1)
def mdR (r : Roof) (w : Nat → Int) : Nat → Roof
  | 0 => r
  | n + 1 => putR (mdR r w n) (bwP (mdR r w n) w).1 (bwP (mdR r w n) w).2 0
def mdL (r : Roof) (w : Nat → Int) : Nat → List Pl
  | 0 => []
  | n + 1 => mdL r w n ++ [bwP (mdR r w n) w]
@[simp] theorem mdR_w (r : Roof) (w : Nat → Int) : ∀ n, (mdR r w n).w = r.w
  | 0 => rfl
  | n + 1 => mdR_w r w n
@[simp] theorem mdR_h (r : Roof) (w : Nat → Int) : ∀ n, (mdR r w n).h = r.h
  | 0 => rfl
  | n + 1 => mdR_h r w n
@[simp] theorem mdR_s (r : Roof) (w : Nat → Int) : ∀ n, (mdR r w n).s = r.s
  | 0 => rfl
  | n + 1 => mdR_s r w n
@[simp] theorem mdL_len (r : Roof) (w : Nat → Int) : ∀ n, (mdL r w n).length = n
  | 0 => rfl
  | n + 1 => by simp [mdL, mdL_len r w n]
theorem wrP_eq (r : Roof) : wrP r = (gridP r.w.toNat r.h.toNat).filter fun q => wrB r q.1 q.2 := allP_eq r _
theorem wrP_drop {r : Roof} {q : Pl} (h : q ∈ wrP r) : (wrP (putR r q.1 q.2 0)).length < (wrP r).length := by
  rw [wrP_eq] at h
  rw [wrP_eq, wrP_eq]
  show ((gridP r.w.toNat r.h.toNat).filter fun x => wrB (putR r q.1 q.2 0) x.1 x.2).length < _
  have e : ((gridP r.w.toNat r.h.toNat).filter fun x => wrB (putR r q.1 q.2 0) x.1 x.2) = ((gridP r.w.toNat r.h.toNat).filter fun q => wrB r q.1 q.2).filter fun x => x != q := by
    rw [List.filter_filter]
    apply List.filter_congr
    intro x _
    unfold wrB putR putG
    by_cases hx : x = q
    · subst hx; simp
    · have : ¬ (x.1 = q.1 ∧ x.2 = q.2) := fun h => hx (Prod.ext h.1 h.2)
      have hx' : (x != q) = true := by simpa using hx
      simp [this, hx']
  rw [e]
  exact List.length_filter_lt_length_iff_exists.2 ⟨q, h, by simp⟩
theorem wrP_ne {r : Roof} {w : Nat → Int} (hw : ∀ c, c < 17 → 0 ≤ w c ∧ w c ≤ 1000) (hb : (1 ≤ r.w ∧ r.w ≤ 8) ∧ (1 ≤ r.h ∧ r.h ≤ 8) ∧ r.s ≤ 1) (h : 0 < dsI r w) : 0 < (wrP r).length := by
  rcases Nat.eq_zero_or_pos (wrP r).length with h0 | h0
  · exfalso
    have hall : ∀ c k : Nat, (c : Int) < r.h → (k : Int) < r.w → r.t c k = 0 := by
      intro c k hc hk
      have hm : (c, k) ∈ gridP r.w.toNat r.h.toNat := by
        unfold gridP rowP
        simp only [List.mem_flatMap, List.mem_range, List.mem_map]
        exact ⟨c, by omega, k, by omega, rfl⟩
      rw [List.length_eq_zero_iff, wrP_eq] at h0
      have := List.filter_eq_nil_iff.1 h0 _ hm
      unfold wrB at this
      simpa using this
    have hd : ∀ i c, dR r w i c = 0 := by
      intro i c
      unfold dR
      split
      · rename_i hon
        have ho : ovI r i c = 0 := by
          have := tlI_range r i c
          unfold ovI
          split
          · rfl
          · exact hall _ _ hon.1 (by omega)
        unfold drI
        rw [ho]
        rfl
      · rfl
    have : dsI r w = 0 := by
      unfold dsI totS
      exact smT_zero (m := 8) (fun i _ => smT_zero (m := 17) (fun c _ => hd i c) 17 (Nat.le_refl _)) 8 (Nat.le_refl _)
    omega
  · exact h0
theorem bwP_mem {r : Roof} {w : Nat → Int} (h : 0 < (wrP r).length) : bwP r w ∈ wrP r := bestL_mem2 (by omega)
/-- What holds before each round. -/
structure MdOk (r : Roof) (w : Nat → Int) (b : Int) (n : Nat) : Prop where
  le : n + (wrP (mdR r w n)).length ≤ 64
  no : ∀ j, j < n → b < dsI (mdR r w j) w
theorem MdOk.zero {r : Roof} (hb : (1 ≤ r.w ∧ r.w ≤ 8) ∧ (1 ≤ r.h ∧ r.h ≤ 8) ∧ r.s ≤ 1) (w : Nat → Int) (b : Int) : MdOk r w b 0 :=
  ⟨by have := allP_len hb (wrB r); show 0 + (wrP r).length ≤ 64; unfold wrP; omega, fun j hj => by omega⟩
theorem MdOk.next {r : Roof} (hb : (1 ≤ r.w ∧ r.w ≤ 8) ∧ (1 ≤ r.h ∧ r.h ≤ 8) ∧ r.s ≤ 1) {w : Nat → Int} (hw : ∀ c, c < 17 → 0 ≤ w c ∧ w c ≤ 1000) {b : Int} (hb0 : 0 ≤ b) {n : Nat} (h : MdOk r w b n) (hd : b < dsI (mdR r w n) w) :
    0 < (wrP (mdR r w n)).length ∧ MdOk r w b (n + 1) := by
  have hne := wrP_ne (r := mdR r w n) hw (by simpa using hb) (by omega)
  refine ⟨hne, ?_, fun j hj => ?_⟩
  · have := wrP_drop (bwP_mem (w := w) hne)
    have h1 := h.le
    simp only [mdR]
    omega
  · by_cases hjn : j = n
    · subst hjn; exact hd
    · exact h.no j (by omega)
end Go.V
/- Contracts: whether rain is valid, how much drips in all, both sides. -/
set_option linter.unusedVariables false
set_option linter.unusedSimpArgs false
namespace Go.V
/- Words for the walks of this text: their default arguments are tried where they are used. -/
end Go.V
namespace Go.V
def rowsC (f : Nat → Nat → Int) (n : Nat) : List Value := ((dripC f).drop 0).take (n * 17)
@[simp] theorem rowsC_len {f : Nat → Nat → Int} {n : Nat} (h : n ≤ 8) : (rowsC f n).length = n * 17 := by unfold rowsC; simp; omega
def qL (q : Nat → Int) (n : Nat) : List Int := (List.range n).map q
@[simp] theorem qL_len (q : Nat → Int) (n : Nat) : (qL q n).length = n := by simp [qL]
end Go.V
namespace Go.Proofs.YtdbhfobnmlogeaaDoor
open Go.V
end Go.Proofs.YtdbhfobnmlogeaaDoor
/- Contracts: how much drips in all and how much a whole tile saves, both sides. -/
set_option linter.unusedVariables false
set_option linter.unusedSimpArgs false
namespace Go.V
/- Words for the walks of this text: their default arguments are tried where they are used. -/
end Go.V
namespace Go.V
end Go.V
namespace Go.Proofs.YtdbhfobnmlogeaaDoor
open Go.V
end Go.Proofs.YtdbhfobnmlogeaaDoor
/- Contracts: the tile that is best made whole; tiles that are made whole until no more than so much drips; the law. -/
set_option linter.unusedVariables false
set_option linter.unusedSimpArgs false
namespace Go.V
end Go.V
namespace Go.Proofs.YtdbhfobnmlogeaaDoor
open Go.V
end Go.Proofs.YtdbhfobnmlogeaaDoor
/- Contracts: tiles that are made whole until no more than so much drips, both sides, and the law. -/
set_option linter.unusedVariables false
set_option linter.unusedSimpArgs false
namespace Go.V
/- Words for the walks of this text: their default arguments are tried where they are used. -/
end Go.V
namespace Go.V
end Go.V
namespace Go.Proofs.YtdbhfobnmlogeaaDoor
open Go.V
end Go.Proofs.YtdbhfobnmlogeaaDoor
/- Numbers as texts, both sides; the text of rain. -/
set_option linter.unusedVariables false
set_option linter.unusedSimpArgs false
namespace Go.V
/- Words for the walks of this text: their default arguments are tried where they are used. -/
theorem go_F2 {P Q : Prop} (k : Q) (h : P := by first | exact strOk (by first | omega | (simp; omega)) | exact Nat.le_of_ble_eq_true rfl | exact rfl | decide | omega | (simp [splice]; done) | (constructor <;> omega) | (simp [splice]; omega)) : P ∧ Q := ⟨h, k⟩
theorem lk_F2 {α : Type} {o : Option α} {K : α → Prop} {x : α} (k : K x) (h : o = some x := by first | exact raiA (by omega) | exact raiA' (by omega) | exact watA (by omega) | exact watA' (by omega) | exact roofN (by omega) (by omega) | exact gridN (by omega) (by omega) | exact intA (by omega) | exact intA' (by omega)) : optK o K := optK_of h k
theorem sc_F2 {P : Program} {g : FuncId} {args args' : List D} {res : D} (h : Sat P g args res) (e : args' = args := by repeat (first | rfl | exact vfull (by first | (simp [splice]; done) | (simp [splice]; omega)) | exact rfull (by first | (simp [splice]; done) | (simp [splice]; omega)) | exact vrai16 (by show ((_ : Int).toNat - 0) * 1 = _; simp) (by show (_ : Int).toNat - 0 = _; simp) | exact vrow (by simp; done) (by omega) | exact vtiles (by simp) | exact vsplice (by simp) (by simp) | refine ceq ?_ ?_ | refine Eq.trans (vsplice (by first | (simp; done) | (simp; omega)) (by first | (simp; done) | (simp; omega))) ?_)) : Sat P g args' res := Sat.of_eq h e
end Go.V
namespace Go.V
theorem bloop_eq (b : ByteArray) : ∀ (n i : Nat) (r : List UInt8), b.size - i = n → ByteArray.toList.loop b i r = r.reverse ++ b.data.toList.drop i := by
  intro n
  induction n with
  | zero =>
    intro i r h
    rw [ByteArray.toList.loop, if_neg (by omega)]
    have : b.data.toList.length ≤ i := by show b.data.size ≤ i; have : b.size = b.data.size := rfl; omega
    rw [List.drop_eq_nil_of_le this, List.append_nil]
  | succ n ih =>
    intro i r h
    have hlt : i < b.size := by omega
    rw [ByteArray.toList.loop, if_pos hlt, ih (i + 1) _ (by omega)]
    have hl : i < b.data.toList.length := hlt
    rw [List.drop_eq_getElem_cons hl]
    have hg : b.get! i = b.data.toList[i] := by
      have : b.get! i = b.data[i]! := rfl
      rw [this, getElem!_pos b.data i hlt]; simp
    rw [hg]; simp
theorem toList_eq (b : ByteArray) : b.toList = b.data.toList := by
  have := bloop_eq b _ 0 [] rfl
  simpa [ByteArray.toList] using this
def bsOf (l : List UInt8) : ByteArray := ⟨l.toArray⟩
theorem strOk {a b : ByteArray} (h : a.size + b.size ≤ 1000000000) : ((a.size + b.size : Nat) : Int) ≤ IntKind.i64.max := by
  have : IntKind.i64.max = 9223372036854775807 := rfl
  rw [this]; omega
theorem bs_append (a b : List UInt8) : bsOf a ++ bsOf b = bsOf (a ++ b) := by
  apply ByteArray.ext
  simp [bsOf]
@[simp] theorem bs_size (l : List UInt8) : (bsOf l).size = l.length := rfl
@[simp] theorem bs_list (l : List UInt8) : (bsOf l).data.toList = l := by simp [bsOf]
theorem dec_len {n k : Nat} (h : n < 10 ^ k) (hk : 1 ≤ k) : (Lib.decDigits n).length ≤ k := by
  rw [Lib.decDigits_length]
  induction k generalizing n with
  | zero => omega
  | succ k ih =>
    by_cases hn : n < 10
    · rw [Lib.nDigits_small hn]; omega
    · rw [Lib.nDigits_big hn]
      have hk1 : 1 ≤ k := by
        cases k with
        | zero => simp at h; omega
        | succ k => omega
      have := ih (n := n / 10) (by rw [Nat.pow_succ] at h; omega) hk1
      omega
def decB (n : Int) : ByteArray := bsOf (Lib.itoa n)
theorem decB_nn {n : Int} (h : 0 ≤ n) : decB n = bsOf (Lib.decDigits n.toNat) := by unfold decB Lib.itoa; rw [if_neg (by omega)]
theorem decB_size {n : Int} (h : 0 ≤ n ∧ n ≤ 1000) : 1 ≤ (decB n).size ∧ (decB n).size ≤ 4 := by
  rw [decB_nn h.1, bs_size]
  refine ⟨?_, dec_len (by omega) (by omega)⟩
  rw [Lib.decDigits_length]; exact Lib.nDigits_pos _
/-- A digit's byte. -/
theorem dig_byte (d : Nat) (h : d < 10) : IntKind.u8.wrap (IntKind.i64.wrap (48 + (d : Int))) = ((UInt8.ofNat (48 + d)).toNat : Int) := by
  have e : (UInt8.ofNat (48 + d)).toNat = 48 + d := by simp [UInt8.toNat_ofNat']; omega
  rw [w64 (by omega) (by omega), e, wu8 (by omega) (by omega)]
  omega
theorem one_byte (d : Nat) (h : d < 10) : [Value.int .u8 (IntKind.u8.wrap (IntKind.i64.wrap (48 + (d : Int))))] = byteVals (bsOf [UInt8.ofNat (48 + d)]) := by
  rw [dig_byte d h]; simp [byteVals, bsOf]
def qS (q : Nat → ByteArray) (n : Nat) : List ByteArray := (List.range n).map q
@[simp] theorem qS_len (q : Nat → ByteArray) (n : Nat) : (qS q n).length = n := by simp [qS]
theorem vrai16 {w : Nat → Int} {n a b : Nat} (ha : a = n) (hb : b = n) : D.row false 1 (.v (.agg ⟨((raiC w).drop 0).take a⟩)) b = .row false 1 (.v (.agg ⟨((raiC w).drop 0).take n⟩)) n := by rw [ha, hb]
end Go.V
namespace Go.Proofs.YtdbhfobnmlogeaaDoor
open Go.V
theorem decimal_sat : ∀ (n : Nat), (n : Int) ≤ 9223372036854775807 → Sat Tryd.prog 118 [.v (.int .i64 n)] (.v (.string (bsOf (Lib.decDigits n)))) := by
  intro n
  induction n using Nat.strongRecOn with
  | _ n ih =>
    intro hn
    have e1 : ((n : Int).tmod 10) = ((n % 10 : Nat) : Int) := (Int.ofNat_tmod n 10).symm
    have e0 : ((n : Int).tdiv 10) = ((n / 10 : Nat) : Int) := (Int.ofNat_tdiv n 10).symm
    have e2 : IntKind.i64.wrap ((n : Int).tdiv 10) = ((n / 10 : Nat) : Int) := by rw [e0, w64 (by omega) (by omega)]
    have e3 := one_byte (n % 10) (by omega)
    refine sat_of_wp hMix tOk Tryd.func118 rfl rfl Tryd.ntmps118 rfl rfl Tryd.results118 (by kernel_rfl) ?_
    conv => whnf
    repeat (first | (refine go_F2 ?_; conv => whnf) | (refine lk_F2 ?_; conv => whnf))
    cases h : decide ((n : Int) < 10)
    · have h' : ¬ n < 10 := by simp at h; omega
      have hs := ih (n / 10) (by omega) (by omega)
      have hl := dec_len (n := n / 10) (k := 19) (by omega) (by omega)
      conv => whnf
      repeat (first | (refine go_F2 ?_; conv => whnf) | (refine lk_F2 ?_; conv => whnf))
      rw [e2]
      first | refine ⟨_, _, rfl, sc_F2 (hs), ?_⟩ | refine .inl ⟨_, _, rfl, sc_F2 (hs), ?_⟩
      conv => whnf
      repeat (first | (refine go_F2 ?_; conv => whnf) | (refine lk_F2 ?_; conv => whnf))
      rw [e1]
      refine ⟨bsOf [UInt8.ofNat (48 + n % 10)], ⟨rfl, rfl, e3, rfl⟩, ?_⟩
      conv => whnf
      refine ⟨by show (((bsOf _).size + (bsOf _).size : Nat) : Int) ≤ 9223372036854775807; simp; omega, ?_⟩
      conv => whnf
      repeat (first | (refine go_F2 ?_; conv => whnf) | (refine lk_F2 ?_; conv => whnf))
      first | refine ⟨rfl, _, rfl, ?_⟩ | refine ⟨_, rfl, ?_⟩
      skip
      rw [bs_append, Lib.decDigits, dif_neg h']; rfl
    · have h' : n < 10 := by simp at h; omega
      have e4 : n % 10 = n := by omega
      conv => whnf
      repeat (first | (refine go_F2 ?_; conv => whnf) | (refine lk_F2 ?_; conv => whnf))
      rw [e1]
      refine ⟨bsOf [UInt8.ofNat (48 + n % 10)], ⟨rfl, rfl, e3, rfl⟩, ?_⟩
      conv => whnf
      repeat (first | (refine go_F2 ?_; conv => whnf) | (refine lk_F2 ?_; conv => whnf))
      first | refine ⟨rfl, _, rfl, ?_⟩ | refine ⟨_, rfl, ?_⟩
      skip
      rw [e4, Lib.decDigits_one h']; rfl
theorem decimalI_sat {n : Int} (h : 0 ≤ n ∧ n ≤ 9223372036854775807) : Sat Tryd.prog 118 [.v (.int .i64 n)] (.v (.string (decB n))) := by
  have := decimal_sat n.toNat (by omega)
  rw [decB_nn h.1]
  rw [show ((n.toNat : Nat) : Int) = n by omega] at this
  exact this
theorem dec16_sat (n : Int) (hn : -32768 ≤ n ∧ n ≤ 32767) : Sat Tryd.prog 74 [.v (.int .i16 n)] (.v (.string (decB n))) := by
  refine sat_of_wp hMix tOk Tryd.func74 rfl rfl Tryd.ntmps74 rfl rfl Tryd.results74 (by kernel_rfl) ?_
  conv => whnf
  repeat (first | (refine go_F2 ?_; conv => whnf) | (refine lk_F2 ?_; conv => whnf))
  rw [show IntKind.i64.wrap n = n from w64 (by omega) (by omega)]
  first | refine ⟨_, _, rfl, sc_F2 (formatInt_sat n (by omega) (by omega)), ?_⟩ | refine .inl ⟨_, _, rfl, sc_F2 (formatInt_sat n (by omega) (by omega)), ?_⟩
  conv => whnf
  repeat (first | (refine go_F2 ?_; conv => whnf) | (refine lk_F2 ?_; conv => whnf))
  first | refine ⟨rfl, _, rfl, ?_⟩ | refine ⟨_, rfl, ?_⟩
  rfl
end Go.Proofs.YtdbhfobnmlogeaaDoor
