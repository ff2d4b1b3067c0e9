import Derived.Test.YtcnenmcagkbppaaVT
import Derived.Test.YtcnenmcagkbppaaW7
import Derived.DeepKeys
set_option linter.unusedVariables false
set_option linter.unusedSimpArgs false
/- Plain words: tables of cells, roofs, places. -/
set_option linter.unusedVariables false
set_option linter.unusedSimpArgs false
namespace Go.V

/-- n cells by a rule. -/
@[irreducible] def tab (n : Nat) (f : Nat → Value) : List Value := (List.range n).map f
theorem tab_def (n : Nat) (f : Nat → Value) : tab n f = (List.range n).map f := by unfold tab; rfl
@[simp] theorem tab_length (n : Nat) (f : Nat → Value) : (tab n f).length = n := by rw [tab_def]; simp
theorem nth_tab {n : Nat} {f : Nat → Value} {i : Nat} (h : i < n) : nth (tab n f) i = some (f i) := by
  rw [nth_eq, tab_def]; simp [h]
theorem tab_get {n : Nat} {f : Nat → Value} {i : Nat} (h : i < n) : (tab n f)[i]? = some (f i) := by
  rw [tab_def]; simp [h]
theorem tab_none {n : Nat} {f : Nat → Value} {i : Nat} (h : n ≤ i) : (tab n f)[i]? = none := by
  rw [List.getElem?_eq_none_iff, tab_length]; exact h
theorem tab_congr {n : Nat} {f g : Nat → Value} (h : ∀ i, i < n → f i = g i) : tab n f = tab n g := by
  rw [tab_def, tab_def]
  apply List.map_congr_left
  intro i hi
  exact h i (by simpa using hi)
theorem tab_set {n : Nat} {f : Nat → Value} {i : Nat} {x : Value} : (tab n f).set i x = tab n fun j => if j = i then x else f j := by
  apply List.ext_getElem?
  intro j
  rw [List.getElem?_set]
  by_cases hj : j < n
  · rw [tab_get hj, tab_get hj]
    by_cases h : i = j
    · subst h; simp [hj]
    · simp [h, Ne.symm h]
  · rw [tab_none (by omega), tab_none (by omega)]
    simp only [tab_length]
    split
    · rw [if_neg (by omega)]
    · rfl
theorem w64 {n : Int} (h1 : -9223372036854775808 ≤ n) (h2 : n ≤ 9223372036854775807) : IntKind.i64.wrap n = n := by
  simp only [IntKind.wrap, IntKind.bits, IntKind.signed, Bool.true_and]
  split <;> rename_i h <;> simp at h <;> omega
theorem w8 {n : Int} (h1 : -128 ≤ n) (h2 : n ≤ 127) : IntKind.i8.wrap n = n := by
  simp only [IntKind.wrap, IntKind.bits, IntKind.signed, Bool.true_and]
  split <;> rename_i h <;> simp at h <;> omega
theorem w16 {n : Int} (h1 : -32768 ≤ n) (h2 : n ≤ 32767) : IntKind.i16.wrap n = n := by
  simp only [IntKind.wrap, IntKind.bits, IntKind.signed, Bool.true_and]
  split <;> rename_i h <;> simp at h <;> omega
theorem w32 {n : Int} (h1 : -2147483648 ≤ n) (h2 : n ≤ 2147483647) : IntKind.i32.wrap n = n := by
  simp only [IntKind.wrap, IntKind.bits, IntKind.signed, Bool.true_and]
  split <;> rename_i h <;> simp at h <;> omega
theorem wu64 {n : Int} (h1 : 0 ≤ n) (h2 : n ≤ 18446744073709551615) : IntKind.u64.wrap n = n := by
  simp [IntKind.wrap, IntKind.bits, IntKind.signed]
  omega

abbrev i64 (n : Int) : D := .v (.int .i64 n)

structure Roof where
  w : Int
  h : Int
  s : Int
  t : Nat → Nat → Int

structure Roof.In (r : Roof) : Prop where
  w : -128 ≤ r.w ∧ r.w ≤ 127
  h : -128 ≤ r.h ∧ r.h ≤ 127
  s : 0 ≤ r.s ∧ r.s ≤ 255
  t : ∀ c k, 0 ≤ r.t c k ∧ r.t c k ≤ 255

def grid (t : Nat → Nat → Int) : List Value := tab 64 fun i => .int .u8 (t (i / 8) (i % 8))
def roofC (r : Roof) : List Value := .int .i8 r.w :: .int .i8 r.h :: .int .u8 r.s :: grid r.t
def placeD (c k : Int) : D := .v (.agg ⟨[.int .i8 c, .int .i8 k]⟩)

theorem grid_get {t : Nat → Nat → Int} {c k : Nat} (hc : c < 8) (hk : k < 8) : nth (grid t) (c * 8 + k) = some (.int .u8 (t c k)) := by
  unfold grid
  rw [nth_tab (by omega)]
  have h1 : (c * 8 + k) / 8 = c := by omega
  have h2 : (c * 8 + k) % 8 = k := by omega
  rw [h1, h2]
theorem roof_get {r : Roof} {i c k : Nat} (hi : i = 3 + c * 8 + k) (hc : c < 8) (hk : k < 8) : nth (roofC r) i = some (.int .u8 (r.t c k)) := by
  subst hi
  rw [show 3 + c * 8 + k = (c * 8 + k) + 3 by omega]
  exact grid_get hc hk

end Go.V
/- Contracts: bounds, kinds, places. -/
set_option linter.unusedVariables false
set_option linter.unusedSimpArgs false
namespace Go.Proofs.Ytcnenmcagkbppaa
open Go.V

theorem l00In_sat (n lo hi : Int) : Sat Try.prog 61 [.v (.int .i64 n), .v (.int .i64 lo), .v (.int .i64 hi)] (.v (.bool (decide (n ≥ lo) && decide (n ≤ hi)))) := by
  refine sat_of_wp hMix tOk Try.func61 rfl rfl Try.ntmps61 rfl rfl Try.results61 (by kernel_rfl) ?_
  conv => whnf
  cases h1 : decide (n ≥ lo)
  · exact ⟨rfl, _, rfl, rfl⟩
  · conv => whnf
    cases h2 : decide (n ≤ hi) <;> exact ⟨rfl, _, rfl, rfl⟩

theorem within8_sat (n lo hi : Int) : Sat Try.prog 84 [.v (.int .i8 n), .v (.int .i8 lo), .v (.int .i8 hi)] (.v (.bool (decide (lo ≤ n) && decide (n ≤ hi)))) := by
  refine sat_of_wp hMix tOk Try.func84 rfl rfl Try.ntmps84 rfl rfl Try.results84 (by kernel_rfl) ?_
  conv => whnf
  cases h1 : decide (lo ≤ n)
  · exact ⟨rfl, _, rfl, rfl⟩
  · conv => whnf
    cases h2 : decide (n ≤ hi) <;> exact ⟨rfl, _, rfl, rfl⟩

end Go.Proofs.Ytcnenmcagkbppaa
/- Contracts: valid roofs. -/
set_option linter.unusedVariables false
set_option linter.unusedSimpArgs false
namespace Go.V
end Go.V
namespace Go.Proofs.Ytcnenmcagkbppaa
open Go.V

end Go.Proofs.Ytcnenmcagkbppaa
/- Contracts: the laws' own copies of rows, tables, roofs. -/
set_option linter.unusedVariables false
set_option linter.unusedSimpArgs false
namespace Go.V
def row8 (f : Nat → Int) : List Value := tab 8 fun k => .int .u8 (f k)
@[simp] theorem row8_len (f : Nat → Int) : (row8 f).length = 8 := by unfold row8; simp
@[simp] theorem grid_len (t : Nat → Nat → Int) : (grid t).length = 64 := by unfold grid; simp
/-- The cells of a table as one row. -/
def flat (t : Nat → Nat → Int) (i : Nat) : Int := t (i / 8) (i % 8)
theorem splice_all {α : Type} {xs ys : List α} (h : xs.length = ys.length) : splice xs 0 ys = ys := by
  unfold splice; simp [← h]
theorem take_drop0 {α : Type} {xs : List α} {n : Nat} (h : xs.length = n) : (xs.drop 0).take n = xs := by
  subst h; simp
end Go.V
namespace Go.Proofs.Ytcnenmcagkbppaa
open Go.V

end Go.Proofs.Ytcnenmcagkbppaa
/- Contracts: valid roofs and ages, both sides. -/
set_option linter.unusedVariables false
set_option linter.unusedSimpArgs false
namespace Go.V
def all8 (p : Nat → Nat → Bool) : Bool := (List.range 8).all fun c => (List.range 8).all fun k => p c k
theorem all8_true {p : Nat → Nat → Bool} (h : ∀ c, c < 8 → ∀ k, k < 8 → p c k = true) : all8 p = true := by
  simp only [all8, List.all_eq_true, List.mem_range]
  exact h
/-- Rows and cells that have been looked at. -/
def Upto (p : Nat → Nat → Bool) (c : Nat) : Prop := ∀ c', c' < c → ∀ k, k < 8 → p c' k = true
def UptoK (p : Nat → Bool) (k : Nat) : Prop := ∀ k', k' < k → p k' = true
theorem Upto.zero (p : Nat → Nat → Bool) : Upto p 0 := fun c' h => by omega
theorem UptoK.zero (p : Nat → Bool) : UptoK p 0 := fun c' h => by omega
theorem Upto.next {p : Nat → Nat → Bool} {c : Nat} (h : Upto p c) (hr : UptoK (p c) 8) : Upto p (c + 1) := by
  intro c' hc k hk
  by_cases e : c' = c
  · subst e; exact hr k hk
  · exact h c' (by omega) k hk
theorem UptoK.next {p : Nat → Bool} {k : Nat} (h : UptoK p k) (hr : p k = true) : UptoK p (k + 1) := by
  intro k' hk
  by_cases e : k' = k
  · subst e; exact hr
  · exact h k' (by omega)
theorem Upto.all {p : Nat → Nat → Bool} (h : Upto p 8) : all8 p = true := all8_true h
theorem succ64 {n : Nat} (h : n < 4294967296) : some (D.v (Value.int .i64 ((n + 1 : Nat) : Int))) = some (D.v (.int .i64 (IntKind.i64.wrap (n + 1)))) := by
  congr 1; exact vint (by rw [w64 (by omega) (by omega)]; omega)
theorem succ8 {n : Nat} (h : n < 127) : some (D.v (Value.int .i8 ((n + 1 : Nat) : Int))) = some (D.v (.int .i8 (IntKind.i8.wrap (n + 1)))) := by
  congr 1; exact vint (by rw [w8 (by omega) (by omega)]; omega)
end Go.V
namespace Go.Proofs.Ytcnenmcagkbppaa
open Go.V

end Go.Proofs.Ytcnenmcagkbppaa
/- Contracts: valid ages, both sides. -/
set_option linter.unusedVariables false
set_option linter.unusedSimpArgs false
namespace Go.V
theorem grid_at {t : Nat → Nat → Int} {c k o : Nat} (ho : o = c * 8 + k) (hc : c < 8) (hk : k < 8) : nth (grid t) o = some (.int .u8 (t c k)) := by
  subst ho; exact grid_get hc hk
end Go.V
namespace Go.Proofs.Ytcnenmcagkbppaa
open Go.V

end Go.Proofs.Ytcnenmcagkbppaa
/- Contracts: valid colours, both sides. -/
set_option linter.unusedVariables false
set_option linter.unusedSimpArgs false
namespace Go.V
theorem UptoK.all {p : Nat → Bool} (h : UptoK p 8) : (List.range 8).all p = true := by
  simp only [List.all_eq_true, List.mem_range]
  exact h
end Go.V
namespace Go.Proofs.Ytcnenmcagkbppaa
open Go.V

end Go.Proofs.Ytcnenmcagkbppaa
/- Contracts: mirrored colours, both sides. -/
set_option linter.unusedVariables false
set_option linter.unusedSimpArgs false
namespace Go.V
def orU8 (a b : Int) : Int := IntKind.u8.wrap (BitVec.ofInt IntKind.u8.bits a ||| BitVec.ofInt IntKind.u8.bits b).toNat
theorem eq_toNat {x : Int} (h : 0 ≤ x) : ∃ n : Nat, x = n := ⟨x.toNat, by omega⟩
end Go.V
namespace Go.Proofs.Ytcnenmcagkbppaa
open Go.V
end Go.Proofs.Ytcnenmcagkbppaa
/- Contracts: mirrored colours, the program's side, and the law. -/
set_option linter.unusedVariables false
set_option linter.unusedSimpArgs false
namespace Go.V
end Go.V
namespace Go.Proofs.Ytcnenmcagkbppaa
open Go.V
end Go.Proofs.Ytcnenmcagkbppaa
/- Contracts: the text of colours, both sides, and the law. -/
set_option linter.unusedVariables false
set_option linter.unusedSimpArgs false
namespace Go.V
end Go.V
namespace Go.Proofs.Ytcnenmcagkbppaa
open Go.V
end Go.Proofs.Ytcnenmcagkbppaa
/- Contracts: how many tiles are red, both sides, and the law. -/
set_option linter.unusedVariables false
set_option linter.unusedSimpArgs false
namespace Go.V
end Go.V
namespace Go.Proofs.Ytcnenmcagkbppaa
open Go.V
end Go.Proofs.Ytcnenmcagkbppaa
/- Contracts: by how many tiles colours differ, both sides, and the law. -/
set_option linter.unusedVariables false
set_option linter.unusedSimpArgs false
namespace Go.V
end Go.V
namespace Go.Proofs.Ytcnenmcagkbppaa
open Go.V
end Go.Proofs.Ytcnenmcagkbppaa
/- Contracts: lists of places. -/
set_option linter.unusedVariables false
set_option linter.unusedSimpArgs false
namespace Go.V
abbrev Pl := Nat × Nat
def placesC : List Pl → List Value
  | [] => []
  | q :: r => .int .i8 q.1 :: .int .i8 q.2 :: placesC r
@[simp] theorem placesC_len (a : List Pl) : (placesC a).length = a.length * 2 := by
  induction a with
  | nil => rfl
  | cons q a ih => simp only [placesC, List.length_cons, ih]; omega
theorem placesC_sub : ∀ {a : List Pl} {i : Nat} {q : Pl}, a[i]? = some q → ((placesC a).drop (i * 2)).take 2 = [.int .i8 q.1, .int .i8 q.2]
  | [], i, q, h => by simp at h
  | p :: a, 0, q, h => by
    simp only [List.getElem?_cons_zero, Option.some.injEq] at h
    subst h
    rfl
  | p :: a, i + 1, q, h => by
    rw [show (i + 1) * 2 = i * 2 + 2 by omega]
    have := placesC_sub (a := a) (i := i) (q := q) (by simpa using h)
    simpa [placesC] using this
def rowP (c k : Nat) : List Pl := (List.range k).map fun j => (c, j)
def gridP (w c : Nat) : List Pl := (List.range c).flatMap fun i => rowP i w
theorem gridP_next (w c : Nat) : gridP w (c + 1) = gridP w c ++ rowP c w := by
  unfold gridP; rw [List.range_succ, List.flatMap_append]; simp
@[simp] theorem rowP_zero (c : Nat) : rowP c 0 = [] := rfl
@[simp] theorem gridP_zero (w : Nat) : gridP w 0 = [] := rfl
@[simp] theorem rowP_len (c k : Nat) : (rowP c k).length = k := by unfold rowP; simp
theorem gridP_len (w : Nat) : ∀ c, (gridP w c).length = c * w
  | 0 => by simp
  | c + 1 => by rw [gridP_next, List.length_append, gridP_len w c, rowP_len, Nat.succ_mul]
/-- The places seen so far that are as told. -/
def pick (p : Nat → Nat → Bool) (w c k : Nat) : List Pl := (gridP w c ++ rowP c k).filter fun q => p q.1 q.2
/-- All places of a roof that are as told, in order. -/
def allP (r : Roof) (p : Nat → Nat → Bool) : List Pl := pick p r.w.toNat r.h.toNat 0
end Go.V
namespace Go.Proofs.Ytcnenmcagkbppaa
open Go.V
end Go.Proofs.Ytcnenmcagkbppaa
/- Contracts: valid words. -/
set_option linter.unusedVariables false
set_option linter.unusedSimpArgs false
namespace Go.V
end Go.V
namespace Go.Proofs.Ytcnenmcagkbppaa
open Go.V

theorem withinInt_sat (n lo hi : Int) : Sat Try.prog 87 [.v (.int .i64 n), .v (.int .i64 lo), .v (.int .i64 hi)] (.v (.bool (decide (lo ≤ n) && decide (n ≤ hi)))) := by
  refine sat_of_wp hMix tOk Try.func87 rfl rfl Try.ntmps87 rfl rfl Try.results87 (by kernel_rfl) ?_
  conv => whnf
  cases h1 : decide (lo ≤ n)
  · exact ⟨rfl, _, rfl, rfl⟩
  · conv => whnf
    cases h2 : decide (n ≤ hi) <;> exact ⟨rfl, _, rfl, rfl⟩

section
variable {g : Nat} {p : Int → Bool}
end

end Go.Proofs.Ytcnenmcagkbppaa
/- Contracts: patterns of words, both sides, and the law. -/
set_option linter.unusedVariables false
set_option linter.unusedSimpArgs false
namespace Go.V
def patB (b : ByteArray) (s c k : Nat) : Bool := byteAt b ((k + s * c) % b.size) == 114
def accS (b : ByteArray) (s : Nat) (f : Nat → Int) (q : Pl) : Nat → Int := fun j => if j = q.1 ∧ patB b s q.1 q.2 = true then orU8 (f j) (IntKind.u8.wrap (1 * 2 ^ (min q.2 IntKind.u8.bits))) else f j
def acc (b : ByteArray) (s : Nat) (ps : List Pl) : Nat → Int := ps.foldl (accS b s) fun _ => 0
end Go.V
namespace Go.Proofs.Ytcnenmcagkbppaa
open Go.V
theorem within64_sat (n lo hi : Int) : Sat Try.prog 55 [.v (.int .i64 n), .v (.int .i64 lo), .v (.int .i64 hi)] (.v (.bool (decide (lo ≤ n) && decide (n ≤ hi)))) := by
  refine sat_of_wp hMix tOk Try.func55 rfl rfl Try.ntmps55 rfl rfl Try.results55 (by kernel_rfl) ?_
  conv => whnf
  cases h1 : decide (lo ≤ n)
  · exact ⟨rfl, _, rfl, rfl⟩
  · conv => whnf
    cases h2 : decide (n ≤ hi) <;> exact ⟨rfl, _, rfl, rfl⟩

end Go.Proofs.Ytcnenmcagkbppaa
/- Contracts: codes of ages, the age of a tile. -/
set_option linter.unusedVariables false
set_option linter.unusedSimpArgs false
namespace Go.V
end Go.V
namespace Go.Proofs.Ytcnenmcagkbppaa
open Go.V
end Go.Proofs.Ytcnenmcagkbppaa
/- Contracts: the oldest tile, both sides. -/
set_option linter.unusedVariables false
set_option linter.unusedSimpArgs false
namespace Go.V
def nthP (ps : List Pl) (i : Nat) : Pl := ps.getD i (0, 0)
theorem nthP_some {ps : List Pl} {i : Nat} (h : i < ps.length) : ps[i]? = some (nthP ps i) := by
  unfold nthP; rw [List.getD_eq_getElem?_getD]; simp [h]
def bestL (a : Nat → Nat → Int) (ps : List Pl) : Nat → Pl
  | 0 => nthP ps 0
  | i + 1 => if a (nthP ps (i + 1)).1 (nthP ps (i + 1)).2 > a (bestL a ps i).1 (bestL a ps i).2 then nthP ps (i + 1) else bestL a ps i
def plD (q : Pl) : D := placeD q.1 q.2
theorem place_load {ps : List Pl} {i o : Nat} (ho : o = i * 2) (h : i < ps.length) : ((placesC ps).drop o).take 2 = [.int .i8 (nthP ps i).1, .int .i8 (nthP ps i).2] := by
  subst ho; exact placesC_sub (nthP_some h)
end Go.V
namespace Go.Proofs.Ytcnenmcagkbppaa
open Go.V
end Go.Proofs.Ytcnenmcagkbppaa
/- Plain words for use: lengths, looks into grids and lists. -/
set_option linter.unusedVariables false
set_option linter.unusedSimpArgs false
namespace Go.V
@[simp] theorem roofC_len (r : Roof) : (roofC r).length = 67 := by simp [roofC]
theorem gridN {t : Nat → Nat → Int} {c k : Nat} (hc : c < 8) (hk : k < 8) : nth (grid t) (0 + (c : Int).toNat * 8 + (k : Int).toNat * 1) = some (.int .u8 (t c k)) := grid_at (by simp) hc hk
theorem roofN {r : Roof} {c k : Nat} (hc : c < 8) (hk : k < 8) : nth (roofC r) (0 + 3 + (c : Int).toNat * 8 + (k : Int).toNat * 1) = some (.int .u8 (r.t c k)) := roof_get (by simp) hc hk
/-- A cell of a grid replaced. -/
def putG (t : Nat → Nat → Int) (c k : Nat) (x : Int) : Nat → Nat → Int := fun c' k' => if c' = c ∧ k' = k then x else t c' k'
def putR (r : Roof) (c k : Nat) (x : Int) : Roof := { r with t := putG r.t c k x }
theorem vplace {ps : List Pl} {i o : Nat} (ho : o = i * 2) (h : i < ps.length) : D.v (.agg ⟨((placesC ps).drop o).take 2⟩) = plD (nthP ps i) := by
  rw [place_load ho h]; rfl
theorem place_get {ps : List Pl} : ∀ {i : Nat}, i < ps.length → nth (placesC ps) (i * 2) = some (.int .i8 (nthP ps i).1) ∧ nth (placesC ps) (i * 2 + 1) = some (.int .i8 (nthP ps i).2) := by
  induction ps with
  | nil => intro i h; simp at h
  | cons p ps ih =>
    intro i h
    cases i with
    | zero => exact ⟨rfl, rfl⟩
    | succ i =>
      rw [show (i + 1) * 2 = i * 2 + 1 + 1 by omega]
      exact ih (by simpa using h)
theorem placeN1 {ps : List Pl} {i o : Nat} (h : i < ps.length) (ho : o = i * 2) : nth (placesC ps) o = some (.int .i8 (nthP ps i).1) := by subst ho; exact (place_get h).1
theorem placeN2 {ps : List Pl} {i o : Nat} (h : i < ps.length) (ho : o = i * 2 + 1) : nth (placesC ps) o = some (.int .i8 (nthP ps i).2) := by subst ho; exact (place_get h).2
theorem placeA {ps : List Pl} {i : Nat} (h : i < ps.length) : nth (placesC ps) (0 + (i : Int).toNat * 2 + 0) = some (.int .i8 (nthP ps i).1) := placeN1 h (by simp)
theorem placeB {ps : List Pl} {i : Nat} (h : i < ps.length) : nth (placesC ps) (0 + (i : Int).toNat * 2 + 1) = some (.int .i8 (nthP ps i).2) := placeN2 h (by simp)
theorem placeA' {ps : List Pl} {i : Nat} (h : i < ps.length) : nth (placesC ps) ((i : Int).toNat * 2 + 0) = some (.int .i8 (nthP ps i).1) := placeN1 h (by simp)
theorem placeB' {ps : List Pl} {i : Nat} (h : i < ps.length) : nth (placesC ps) ((i : Int).toNat * 2 + 1) = some (.int .i8 (nthP ps i).2) := placeN2 h (by simp)
theorem vsplice {xs ys : List Value} {n : Nat} (h : xs.length = ys.length) (h2 : ys.length ≤ n) : D.v (.agg ⟨((splice xs 0 ys).drop 0).take n⟩) = D.v (.agg ⟨ys⟩) := by
  rw [splice_all h, List.drop_zero, take_full h2]
theorem cset {l l' : List Value} (h : l = l') : some (D.v (.agg ⟨l⟩)) = some (D.v (.agg ⟨l'⟩)) := by rw [h]
end Go.V
/- Contracts: the oldest tile, the reference's side. -/
set_option linter.unusedVariables false
set_option linter.unusedSimpArgs false
namespace Go.V
end Go.V
namespace Go.Proofs.Ytcnenmcagkbppaa
open Go.V
end Go.Proofs.Ytcnenmcagkbppaa
/- Contracts: OldestOf, both sides, and the law. -/
set_option linter.unusedVariables false
set_option linter.unusedSimpArgs false
namespace Go.V
end Go.V
namespace Go.Proofs.Ytcnenmcagkbppaa
open Go.V
end Go.Proofs.Ytcnenmcagkbppaa
/- Contracts: FirstBreak, both sides, and the law. -/
set_option linter.unusedVariables false
set_option linter.unusedSimpArgs false
namespace Go.V
end Go.V
namespace Go.Proofs.Ytcnenmcagkbppaa
open Go.V
end Go.Proofs.Ytcnenmcagkbppaa
/- Contracts: equal grids and roofs; ages some years later, both sides, and the law. -/
set_option linter.unusedVariables false
set_option linter.unusedSimpArgs false
namespace Go.V
end Go.V
namespace Go.Proofs.Ytcnenmcagkbppaa
open Go.V
end Go.Proofs.Ytcnenmcagkbppaa
/- Contracts: lists of places by a function that carries values with it; marks in lists of places; tiles that are too old. -/
set_option linter.unusedVariables false
set_option linter.unusedSimpArgs false
namespace Go.V
/-- Cells with numbers one after another. -/
def marksC (k : Int) (n : Nat) : List Value := tab n fun j => .int .i8 (IntKind.i8.wrap (k + j))
@[simp] theorem marksC_len (k : Int) (n : Nat) : (marksC k n).length = n := by simp [marksC]
end Go.V
namespace Go.Proofs.Ytcnenmcagkbppaa
open Go.V
end Go.Proofs.Ytcnenmcagkbppaa
/- Contracts: marks in lists of places; tiles that are too old; broken roofs; the laws. -/
set_option linter.unusedVariables false
set_option linter.unusedSimpArgs false
namespace Go.V
theorem allP_eq (r : Roof) (p : Nat → Nat → Bool) : allP r p = (gridP r.w.toNat r.h.toNat).filter fun q => p q.1 q.2 := by
  unfold allP pick; simp
theorem allP_len {r : Roof} (hb : (1 ≤ r.w ∧ r.w ≤ 8) ∧ (1 ≤ r.h ∧ r.h ≤ 8) ∧ r.s ≤ 1) (p : Nat → Nat → Bool) : (allP r p).length ≤ 64 := by
  rw [allP_eq]
  refine Nat.le_trans (List.length_filter_le _ _) ?_
  rw [gridP_len]
  exact Nat.mul_le_mul (show r.h.toNat ≤ 8 by omega) (show r.w.toNat ≤ 8 by omega)
end Go.V
namespace Go.Proofs.Ytcnenmcagkbppaa
open Go.V
end Go.Proofs.Ytcnenmcagkbppaa
/- Contracts: broken roofs, both sides, and the law. -/
set_option linter.unusedVariables false
set_option linter.unusedSimpArgs false
namespace Go.V
end Go.V
namespace Go.Proofs.Ytcnenmcagkbppaa
open Go.V
end Go.Proofs.Ytcnenmcagkbppaa
/- Plain words: lists of whole numbers. -/
set_option linter.unusedVariables false
set_option linter.unusedSimpArgs false
namespace Go.V
def I64 (x : Int) : Prop := -9223372036854775808 ≤ x ∧ x ≤ 9223372036854775807
def ix (xs : List Int) (i : Nat) : Int := xs.getD i 0
@[irreducible] def intsC (xs : List Int) : List Value := xs.map (Value.int .i64)
theorem intsC_def (xs : List Int) : intsC xs = xs.map (Value.int .i64) := by unfold intsC; rfl
@[simp] theorem intsC_len (xs : List Int) : (intsC xs).length = xs.length := by simp [intsC_def]
theorem intsC_append (xs ys : List Int) : intsC (xs ++ ys) = intsC xs ++ intsC ys := by simp [intsC_def]
theorem intsC_one (x : Int) : intsC [x] = [.int .i64 x] := by simp [intsC_def]
theorem intsC_nil : intsC [] = [] := by simp [intsC_def]
def intsD (m : Bool) (xs : List Int) : D := .row m 1 (.v (.agg ⟨intsC xs⟩)) xs.length
theorem intN {xs : List Int} {i o : Nat} (h : i < xs.length) (ho : o = i) : nth (intsC xs) o = some (.int .i64 (ix xs i)) := by
  subst ho
  rw [nth_eq, intsC_def, List.getElem?_map]
  unfold ix
  rw [List.getD_eq_getElem?_getD]
  simp [h]
theorem intA {xs : List Int} {i : Nat} (h : i < xs.length) : nth (intsC xs) (0 + (i : Int).toNat * 1) = some (.int .i64 (ix xs i)) := intN h (by simp)
theorem intA' {xs : List Int} {i : Nat} (h : i < xs.length) : nth (intsC xs) ((i : Int).toNat * 1) = some (.int .i64 (ix xs i)) := intN h (by simp)
theorem itake_next {xs : List Int} {i : Nat} (h : i < xs.length) : xs.take (i + 1) = xs.take i ++ [ix xs i] := by
  rw [List.take_add_one]
  unfold ix
  rw [List.getD_eq_getElem?_getD]
  simp [h]
def marksI (k : Int) (n : Nat) : List Int := (List.range n).map fun j => k + (j : Nat)
@[simp] theorem marksI_len (k : Int) (n : Nat) : (marksI k n).length = n := by simp [marksI]
end Go.V
/- Contracts: lists of whole numbers; visits; the law on visits. -/
set_option linter.unusedVariables false
set_option linter.unusedSimpArgs false
namespace Go.V
end Go.V
namespace Go.Proofs.Ytcnenmcagkbppaa
open Go.V
end Go.Proofs.Ytcnenmcagkbppaa
/- Contracts: visits that are checked, both sides, and the law. -/
set_option linter.unusedVariables false
set_option linter.unusedSimpArgs false
namespace Go.V
end Go.V
namespace Go.Proofs.Ytcnenmcagkbppaa
open Go.V
end Go.Proofs.Ytcnenmcagkbppaa
/- Plain words: values of arrays and structs of whole numbers compared. -/
set_option linter.unusedVariables false
set_option linter.unusedSimpArgs false
namespace Go.V
def litOf : Value → Lit
  | .int k z => .int k z
  | _ => .bool false
def litsOf (cs : List Value) : List Lit := cs.map litOf
/-- A cell with a whole number that its kind has. -/
def IntCell : Value → Prop
  | .int k z => (Lit.int k z).wf = true
  | _ => False
theorem litsOf_inj : ∀ {xs ys : List Value}, (∀ x ∈ xs, IntCell x) → (∀ y ∈ ys, IntCell y) → litsOf xs = litsOf ys → xs = ys
  | [], [], _, _, _ => rfl
  | [], y :: ys, _, _, h => by simp [litsOf] at h
  | x :: xs, [], _, _, h => by simp [litsOf] at h
  | x :: xs, y :: ys, hx, hy, h => by
    simp only [litsOf, List.map_cons, List.cons.injEq] at h
    have h1 := hx x (by simp)
    have h2 := hy y (by simp)
    have := litsOf_inj (fun z hz => hx z (by simp [hz])) (fun z hz => hy z (by simp [hz])) h.2
    subst this
    cases x <;> simp only [IntCell] at h1
    cases y <;> simp only [IntCell] at h2
    have h3 := h.1
    simp only [litOf, Lit.int.injEq] at h3
    rw [h3.1, h3.2]
theorem mapM_some {α β : Type} {f : α → Option β} {g : α → β} : ∀ (l : List α), (∀ x ∈ l, f x = some (g x)) → l.mapM f = some (l.map g)
  | [], _ => rfl
  | x :: l, h => by
    rw [List.mapM_cons, h x (by simp), mapM_some l fun y hy => h y (by simp [hy])]
    rfl
theorem chunks (c : Nat) : ∀ (n : Nat) (cs : List Value), cs.length = n * c → ((List.range n).map fun i => (cs.drop (i * c)).take c).flatten = cs
  | 0, cs, h => by
    have : cs = [] := List.length_eq_zero_iff.1 (by simpa using h)
    simp [this]
  | n + 1, cs, h => by
    rw [Nat.succ_mul] at h
    have e : ((List.range (n + 1)).map fun i => (cs.drop (i * c)).take c) = (cs.take c) :: ((List.range n).map fun i => ((cs.drop c).drop (i * c)).take c) := by
      rw [List.range_succ_eq_map, List.map_cons, List.map_map]
      congr 1
      · simp
      · apply List.map_congr_left
        intro i _
        simp only [Function.comp, List.drop_drop]
        rw [Nat.succ_mul, Nat.add_comm]
    rw [e, List.flatten_cons, chunks c n (cs.drop c) (by simp; omega), List.take_append_drop]
section
variable {P : Program}
theorem keyLits_int {d : Nat} {e : TypeId} {k : IntKind} {z : Int} (hu : P.underlying e = some (.int k)) (hw : (Lit.int k z).wf = true) : P.keyLits (d + 1) e [.int k z] = some (litsOf [.int k z]) := by
  unfold Program.keyLits
  simp [hu, hw, litsOf, litOf]
theorem keyLits_array {d : Nat} {t e : TypeId} {n : Nat} {cs : List Value} (hu : P.underlying t = some (.array n e)) (hs : P.cellsOf t = n * P.cellsOf e) (hl : cs.length = n * P.cellsOf e)
    (he : ∀ i, i < n → P.keyLits d e ((cs.drop (i * P.cellsOf e)).take (P.cellsOf e)) = some (litsOf ((cs.drop (i * P.cellsOf e)).take (P.cellsOf e)))) : P.keyLits (d + 1) t cs = some (litsOf cs) := by
  unfold Program.keyLits
  simp only [hu]
  rw [if_pos (by rw [hl, hs])]
  rw [mapM_some (g := fun i => litsOf ((cs.drop (i * P.cellsOf e)).take (P.cellsOf e))) _ (fun i hi => he i (by simpa using hi))]
  simp only [Option.map_some, Option.some.injEq]
  have := chunks (P.cellsOf e) n cs hl
  conv => rhs; rw [← this]
  unfold litsOf
  rw [List.map_flatten, List.map_map]
  rfl
theorem keyLits_struct {d : Nat} {t : TypeId} {fs : Array Field} {cs : List Value} (hu : P.underlying t = some (.struct fs)) (hs : cs.length = P.cellsOf t) (hn : fs.all (·.name != "_") = true)
    (hf : ∀ f ∈ fs.toList, P.keyLits d f.type ((cs.drop f.offset).take (P.cellsOf f.type)) = some (litsOf ((cs.drop f.offset).take (P.cellsOf f.type))))
    (hc : (fs.toList.map fun f => (cs.drop f.offset).take (P.cellsOf f.type)).flatten = cs) : P.keyLits (d + 1) t cs = some (litsOf cs) := by
  unfold Program.keyLits
  simp only [hu]
  rw [if_pos ⟨hs, hn⟩]
  rw [mapM_some (g := fun f => litsOf ((cs.drop f.offset).take (P.cellsOf f.type))) _ hf]
  simp only [Option.map_some, Option.some.injEq]
  conv => rhs; rw [← hc]
  unfold litsOf
  rw [List.map_flatten, List.map_map]
  rfl
/-- An array of whole numbers. -/
theorem keyLits_ints {d : Nat} {t e : TypeId} {n : Nat} {k : IntKind} {cs : List Value} (hu : P.underlying t = some (.array n e)) (hue : P.underlying e = some (.int k)) (he1 : P.cellsOf e = 1) (hs : P.cellsOf t = n) (hl : cs.length = n)
    (hk : ∀ (i : Nat) (x : Value), cs[i]? = some x → ∃ z, x = Value.int k z ∧ (Lit.int k z).wf = true) : P.keyLits (d + 2) t cs = some (litsOf cs) := by
  refine keyLits_array hu (by rw [he1, hs, Nat.mul_one]) (by rw [he1, hl, Nat.mul_one]) (fun i hi => ?_)
  rw [he1, Nat.mul_one]
  have hx : cs[i]? = some cs[i] := by simp [hl, hi]
  obtain ⟨z, h1, h2⟩ := hk i _ hx
  have e : (cs.drop i).take 1 = [.int k z] := by
    rw [List.drop_eq_getElem_cons (by omega), h1]
    rfl
  rw [e]
  exact keyLits_int hue h2
theorem eqAgg_of {t : TypeId} {m : Nat} {xs ys : List Value} (hm : m ≤ 10000) (hk : P.keyTypeAt m t = true) (hg : P.eqGuardType P.depth t = false) (fx : Value.formed P t (.agg ⟨xs⟩) = true) (fy : Value.formed P t (.agg ⟨ys⟩) = true) {D D' : Nat}
    (hx : P.keyLits D t xs = some (litsOf xs)) (hy : P.keyLits D' t ys = some (litsOf ys)) (hix : ∀ x ∈ xs, IntCell x) (hiy : ∀ y ∈ ys, IntCell y) {r : Bool} (hr0 : r = true ↔ xs = ys) : EqAgg P t xs ys r := by
  intro w
  refine ⟨fun op x y => run_eqGuard_agg w op t x y ⟨xs⟩ ⟨ys⟩ hg, ?_⟩
  obtain ⟨r', hr, hiff⟩ := run_equalIn_deep (10000 - m) m t hk w D D' (.agg ⟨xs⟩) (.agg ⟨ys⟩) _ _ fx fy hx hy
  have e : (Op.equal t (.agg ⟨xs⟩) (.agg ⟨ys⟩)).run P w = .ok r' w := by
    unfold Op.equal Op.maxDepth
    rw [show 10000 = 10000 - m + m by omega]
    exact hr
  rw [e]
  congr 1
  rw [Bool.eq_iff_iff, hiff, hr0]
  exact ⟨litsOf_inj hix hiy, fun h => by rw [h]⟩
end
end Go.V
/- Contracts: all words, patterns found again, both sides, and the law. -/
set_option linter.unusedVariables false
set_option linter.unusedSimpArgs false
namespace Go.V
def letB : ByteArray := ⟨#[98]⟩
def letR : ByteArray := ⟨#[114]⟩
/-- The j-th word of n letters. -/
def word : Nat → Nat → ByteArray
  | 0, _ => ⟨#[]⟩
  | n + 1, j => word n (j / 2) ++ (if j % 2 = 1 then letR else letB)
@[simp] theorem word_size : ∀ n j, (word n j).size = n
  | 0, _ => rfl
  | n + 1, j => by
    have h1 := word_size n (j / 2)
    have h2 : (if j % 2 = 1 then letR else letB).size = 1 := by split <;> rfl
    simp only [word, ByteArray.size_append, h1, h2]
@[irreducible] def wordsC (n m : Nat) : List Value := tab m fun j => .string (word n j)
@[simp] theorem wordsC_len (n m : Nat) : (wordsC n m).length = m := by unfold wordsC; simp
theorem find_some {p : Nat → Bool} {n s : Nat} (h : s < n) (hp : p s = true) (hno : ∀ j, j < s → p j = false) : (List.range n).find? p = some s := by
  rw [List.find?_range_eq_some]
  exact ⟨hp, by simpa using h, fun j hj => by simp [hno j hj]⟩
theorem find_none {p : Nat → Bool} {n : Nat} (hno : ∀ j, j < n → p j = false) : (List.range n).find? p = none := by
  rw [List.find?_eq_none]
  intro x hx
  simp [hno x (by simpa using hx)]
theorem below_succ {p : Nat → Prop} {q : Nat} (h : ∀ k, k < q → p k) (hq : p q) : ∀ k, k < q + 1 → p k := by
  intro k hk
  by_cases e : k = q
  · subst e; exact hq
  · exact h k (by omega)
end Go.V
namespace Go.Proofs.Ytcnenmcagkbppaa
open Go.V
end Go.Proofs.Ytcnenmcagkbppaa
/- Contracts: patterns found again, the reference's side, and the law. -/
set_option linter.unusedVariables false
set_option linter.unusedSimpArgs false
namespace Go.V
end Go.V
namespace Go.Proofs.Ytcnenmcagkbppaa
open Go.V
end Go.Proofs.Ytcnenmcagkbppaa
/- Contracts: something of each place; what has to be replaced, both sides, and the law. -/
set_option linter.unusedVariables false
set_option linter.unusedSimpArgs false
namespace Go.V
def newB (life nx y b : Int) : Int := if nx - b > life then y else b
/-- The first k tiles seen to. -/
def bornS (life nx y : Int) (born : List Int) (k : Nat) : List Int := (born.take k).map (newB life nx y) ++ born.drop k
def cntS (life nx : Int) (born : List Int) (k : Nat) : Nat := (born.take k).countP fun b => decide (nx - b > life)
def nxAt (years : Int) (vs : List Int) (i : Nat) : Int := if i + 1 < vs.length then ix vs (i + 1) else years
def bornI (life years : Int) (vs b0 : List Int) : Nat → List Int
  | 0 => b0
  | i + 1 => bornS life (nxAt years vs i) (ix vs i) (bornI life years vs b0 i) b0.length
def outI (life years : Int) (vs b0 : List Int) : Nat → List Int
  | 0 => []
  | i + 1 => outI life years vs b0 i ++ [((cntS life (nxAt years vs i) (bornI life years vs b0 i) b0.length : Nat) : Int)]
@[simp] theorem bornS_len (life nx y : Int) (born : List Int) (k : Nat) : (bornS life nx y born k).length = born.length := by
  simp [bornS]
  omega
@[simp] theorem bornI_len (life years : Int) (vs b0 : List Int) : ∀ i, (bornI life years vs b0 i).length = b0.length
  | 0 => rfl
  | i + 1 => by simp only [bornI, bornS_len]; exact bornI_len life years vs b0 i
@[simp] theorem outI_len (life years : Int) (vs b0 : List Int) : ∀ i, (outI life years vs b0 i).length = i
  | 0 => rfl
  | i + 1 => by simp only [outI, List.length_append, outI_len life years vs b0 i]; rfl
end Go.V
namespace Go.Proofs.Ytcnenmcagkbppaa
open Go.V
end Go.Proofs.Ytcnenmcagkbppaa
/- Plain words: lists of strings. -/
set_option linter.unusedVariables false
set_option linter.unusedSimpArgs false
namespace Go.V
@[irreducible] def strsC (ws : List ByteArray) : List Value := ws.map Value.string
theorem strsC_def (ws : List ByteArray) : strsC ws = ws.map Value.string := by unfold strsC; rfl
@[simp] theorem strsC_len (ws : List ByteArray) : (strsC ws).length = ws.length := by simp [strsC_def]
end Go.V
/- Contracts: the nearest pattern, both sides, and the law. -/
set_option linter.unusedVariables false
set_option linter.unusedSimpArgs false
namespace Go.V
end Go.V
namespace Go.Proofs.Ytcnenmcagkbppaa
open Go.V
end Go.Proofs.Ytcnenmcagkbppaa
/- Plain words: gutters, their pipes, and water. -/
set_option linter.unusedVariables false
set_option linter.unusedSimpArgs false
namespace Go.V
structure Gut where
  n : Int
  dp : Int
  h : Nat → Int
  lv : Int
  ps : List (Int × Int)
def px (ps : List (Int × Int)) (i : Nat) : Int × Int := ps.getD i (0, 0)
structure Gut.In (g : Gut) : Prop where
  n : -128 ≤ g.n ∧ g.n ≤ 127
  dp : -32768 ≤ g.dp ∧ g.dp ≤ 32767
  h : ∀ i, -128 ≤ g.h i ∧ g.h i ≤ 127
  lv : 0 ≤ g.lv ∧ g.lv ≤ 4294967295
  ps : ∀ i, i < g.ps.length → (-128 ≤ (px g.ps i).1 ∧ (px g.ps i).1 ≤ 127) ∧ (-32768 ≤ (px g.ps i).2 ∧ (px g.ps i).2 ≤ 32767)
  len : g.ps.length ≤ 9223372036854775807
@[irreducible] def pipesC (ps : List (Int × Int)) : List Value := ps.flatMap fun q => [.int .i8 q.1, .int .i16 q.2]
theorem pipesC_def (ps : List (Int × Int)) : pipesC ps = ps.flatMap fun q => [.int .i8 q.1, .int .i16 q.2] := by unfold pipesC; rfl
theorem pipesC_cons (q : Int × Int) (ps : List (Int × Int)) : pipesC (q :: ps) = .int .i8 q.1 :: .int .i16 q.2 :: pipesC ps := by simp [pipesC_def]
theorem pipesC_nil : pipesC [] = [] := by simp [pipesC_def]
@[simp] theorem pipesC_len (ps : List (Int × Int)) : (pipesC ps).length = ps.length * 2 := by
  induction ps with
  | nil => simp [pipesC_nil]
  | cons q ps ih => simp only [pipesC_cons, List.length_cons, ih]; omega
theorem pipesC_append (a b : List (Int × Int)) : pipesC (a ++ b) = pipesC a ++ pipesC b := by simp [pipesC_def]
theorem pipe_get : ∀ {ps : List (Int × Int)} {i : Nat}, i < ps.length → nth (pipesC ps) (i * 2) = some (.int .i8 (px ps i).1) ∧ nth (pipesC ps) (i * 2 + 1) = some (.int .i16 (px ps i).2)
  | [], i, h => by simp at h
  | q :: ps, 0, h => by rw [pipesC_cons]; exact ⟨rfl, rfl⟩
  | q :: ps, i + 1, h => by
    rw [show (i + 1) * 2 = i * 2 + 1 + 1 by omega, pipesC_cons]
    exact pipe_get (by simpa using h)
theorem pipeN1 {ps : List (Int × Int)} {i o : Nat} (h : i < ps.length) (ho : o = i * 2) : nth (pipesC ps) o = some (.int .i8 (px ps i).1) := by subst ho; exact (pipe_get h).1
theorem pipeN2 {ps : List (Int × Int)} {i o : Nat} (h : i < ps.length) (ho : o = i * 2 + 1) : nth (pipesC ps) o = some (.int .i16 (px ps i).2) := by subst ho; exact (pipe_get h).2
theorem pipeA {ps : List (Int × Int)} {i : Nat} (h : i < ps.length) : nth (pipesC ps) ((i : Int).toNat * 2 + 0) = some (.int .i8 (px ps i).1) := pipeN1 h (by simp)
theorem pipeB {ps : List (Int × Int)} {i : Nat} (h : i < ps.length) : nth (pipesC ps) ((i : Int).toNat * 2 + 1) = some (.int .i16 (px ps i).2) := pipeN2 h (by simp)
def pipeD (q : Int × Int) : D := .v (.agg ⟨[.int .i8 q.1, .int .i16 q.2]⟩)
theorem pipe_sub : ∀ {ps : List (Int × Int)} {i : Nat}, i < ps.length → ((pipesC ps).drop (i * 2)).take 2 = [.int .i8 (px ps i).1, .int .i16 (px ps i).2]
  | [], i, h => by simp at h
  | q :: ps, 0, h => by rw [pipesC_cons]; rfl
  | q :: ps, i + 1, h => by
    rw [show (i + 1) * 2 = i * 2 + 1 + 1 by omega, pipesC_cons]
    exact pipe_sub (ps := ps) (by simpa using h)
theorem vpipe {ps : List (Int × Int)} {i o : Nat} (ho : o = i * 2) (h : i < ps.length) : D.v (.agg ⟨((pipesC ps).drop o).take 2⟩) = pipeD (px ps i) := by
  subst ho; rw [pipe_sub h]; rfl
def hD (h : Nat → Int) : List D := [.v (.int .i8 (h 0)), .v (.int .i8 (h 1)), .v (.int .i8 (h 2)), .v (.int .i8 (h 3)), .v (.int .i8 (h 4)), .v (.int .i8 (h 5)), .v (.int .i8 (h 6)), .v (.int .i8 (h 7)), .v (.int .i8 (h 8)), .v (.int .i8 (h 9)), .v (.int .i8 (h 10)), .v (.int .i8 (h 11)), .v (.int .i8 (h 12)), .v (.int .i8 (h 13)), .v (.int .i8 (h 14)), .v (.int .i8 (h 15)), .v (.int .i8 (h 16))]
def hV (h : Nat → Int) : List Value := [.int .i8 (h 0), .int .i8 (h 1), .int .i8 (h 2), .int .i8 (h 3), .int .i8 (h 4), .int .i8 (h 5), .int .i8 (h 6), .int .i8 (h 7), .int .i8 (h 8), .int .i8 (h 9), .int .i8 (h 10), .int .i8 (h 11), .int .i8 (h 12), .int .i8 (h 13), .int .i8 (h 14), .int .i8 (h 15), .int .i8 (h 16)]
def pipesD (m : Bool) (ps : List (Int × Int)) : D := .row m 2 (.v (.agg ⟨pipesC ps⟩)) ps.length
def gutL (m : Bool) (g : Gut) : List D := .v (.int .i8 g.n) :: .v (.int .i16 g.dp) :: (hD g.h ++ [.v (.int .u32 g.lv), pipesD m g.ps])
def gutD (m : Bool) (g : Gut) : D := .agg (gutL m g)
theorem cases17 {P : Nat → Prop} (h0 : P 0) (h1 : P 1) (h2 : P 2) (h3 : P 3) (h4 : P 4) (h5 : P 5) (h6 : P 6) (h7 : P 7) (h8 : P 8) (h9 : P 9) (h10 : P 10) (h11 : P 11) (h12 : P 12) (h13 : P 13) (h14 : P 14) (h15 : P 15) (h16 : P 16) : ∀ i, i < 17 → P i := by
  intro i hi
  have : i = 0 ∨ i = 1 ∨ i = 2 ∨ i = 3 ∨ i = 4 ∨ i = 5 ∨ i = 6 ∨ i = 7 ∨ i = 8 ∨ i = 9 ∨ i = 10 ∨ i = 11 ∨ i = 12 ∨ i = 13 ∨ i = 14 ∨ i = 15 ∨ i = 16 := by omega
  rcases this with rfl | rfl | rfl | rfl | rfl | rfl | rfl | rfl | rfl | rfl | rfl | rfl | rfl | rfl | rfl | rfl | rfl <;> assumption
theorem gutH {m : Bool} {g : Gut} {o i : Nat} (ho : o = 2 + i) (h : i < 17) : nth (gutL m g) o = some (.v (.int .i8 (g.h i))) := by
  subst ho
  refine cases17 (P := fun i => nth (gutL m g) (2 + i) = some (.v (.int .i8 (g.h i)))) ?_ ?_ ?_ ?_ ?_ ?_ ?_ ?_ ?_ ?_ ?_ ?_ ?_ ?_ ?_ ?_ ?_ i h <;> rfl
theorem hDN {h : Nat → Int} {o i : Nat} (ho : o = i) (hi : i < 17) : nth (hD h) o = some (.v (.int .i8 (h i))) := by
  subst ho
  refine cases17 (P := fun o => nth (hD h) o = some (.v (.int .i8 (h o)))) ?_ ?_ ?_ ?_ ?_ ?_ ?_ ?_ ?_ ?_ ?_ ?_ ?_ ?_ ?_ ?_ ?_ o hi <;> rfl
theorem hDA {h : Nat → Int} {i : Nat} (hi : i < 17) : nth (hD h) (0 + (i : Int).toNat * 1) = some (.v (.int .i8 (h i))) := hDN (by simp) hi
theorem hDA' {h : Nat → Int} {i : Nat} (hi : i < 17) : nth (hD h) ((i : Int).toNat * 1) = some (.v (.int .i8 (h i))) := hDN (by simp) hi
theorem gutA {m : Bool} {g : Gut} {i : Nat} (h : i < 17) : nth (gutL m g) (0 + 2 + (i : Int).toNat * 1) = some (.v (.int .i8 (g.h i))) := gutH (by omega) h
/-- Water. -/
def watC (w : Nat → Int) : List Value := tab 17 fun i => .int .i32 (w i)
@[simp] theorem watC_len (w : Nat → Int) : (watC w).length = 17 := by simp [watC]
def watD (w : Nat → Int) : D := .v (.agg ⟨watC w⟩)
structure WatIn (w : Nat → Int) : Prop where
  t : ∀ i, -2147483648 ≤ w i ∧ w i ≤ 2147483647
theorem watN {w : Nat → Int} {o i : Nat} (ho : o = i) (h : i < 17) : nth (watC w) o = some (.int .i32 (w i)) := by subst ho; unfold watC; rw [nth_tab h]
theorem watA {w : Nat → Int} {i : Nat} (h : i < 17) : nth (watC w) (0 + (i : Int).toNat * 1) = some (.int .i32 (w i)) := watN (by simp) h
theorem watA' {w : Nat → Int} {i : Nat} (h : i < 17) : nth (watC w) ((i : Int).toNat * 1) = some (.int .i32 (w i)) := watN (by simp) h
theorem watC_congr {f g : Nat → Int} (h : ∀ i, i < 17 → f i = g i) : watC f = watC g := by
  unfold watC; exact tab_congr fun i hi => by rw [h i hi]
def putW (w : Nat → Int) (c : Nat) (x : Int) : Nat → Int := fun j => if j = c then x else w j
theorem wat_set {w : Nat → Int} {c o : Nat} {x : Int} (ho : o = c) : (watC w).set o (.int .i32 x) = watC (putW w c x) := by
  subst ho
  unfold watC putW
  rw [tab_set]
  apply tab_congr
  intro i hi
  by_cases h : i = o
  · subst h; simp
  · simp [h]
theorem watC_zero : watC (fun _ => 0) = List.replicate 17 (.int .i32 0) := by
  unfold watC; rw [tab_def]; rfl
theorem allN_iff {n : Nat} {p : Nat → Bool} : (List.range n).all p = true ↔ ∀ i, i < n → p i = true := by simp
theorem allN_false {n i : Nat} {p : Nat → Bool} (hi : i < n) (h : p i = false) : (List.range n).all p = false := by
  cases ha : (List.range n).all p
  · rfl
  · rw [allN_iff.1 ha i hi] at h; cases h
/-- What is valid. -/
def deepB (x : Int) : Bool := decide (0 ≤ x) && decide (x ≤ 1000)
def hOk (g : Gut) (k : Nat) : Bool := (decide (0 ≤ g.h k) && decide (g.h k ≤ 9)) && (decide ((k : Int) < g.n) || g.h k == 0)
def pOk (g : Gut) (i : Nat) : Bool := ((decide (0 ≤ (px g.ps i).1) && decide ((px g.ps i).1 ≤ g.n - 1)) && deepB (px g.ps i).2) && (i == 0 || decide ((px g.ps (i - 1)).1 < (px g.ps i).1))
def okG0 (g : Gut) : Bool := (((decide (1 ≤ g.n) && decide (g.n ≤ 17)) && deepB g.dp) && (g.lv.fdiv (2 ^ (min g.n.toNat IntKind.u32.bits)) == 0)) && decide (g.ps.length ≤ 4)
def okG (g : Gut) : Bool := (okG0 g && (List.range 17).all (hOk g)) && (List.range g.ps.length).all (pOk g)
def wOk (g : Gut) (w : Nat → Int) (k : Nat) : Bool := (decide (0 ≤ w k) && decide (w k ≤ g.dp)) && (decide ((k : Int) < g.n) || w k == 0)
def okW17 (g : Gut) (w : Nat → Int) : Bool := okG g && (List.range 17).all (wOk g w)
structure Gut.Ok (g : Gut) : Prop where
  n : 1 ≤ g.n ∧ g.n ≤ 17
  dp : 0 ≤ g.dp ∧ g.dp ≤ 1000
  len : g.ps.length ≤ 4
  h : ∀ k, k < 17 → 0 ≤ g.h k ∧ g.h k ≤ 9
  ps : ∀ i, i < g.ps.length → (0 ≤ (px g.ps i).1 ∧ (px g.ps i).1 ≤ g.n - 1) ∧ (0 ≤ (px g.ps i).2 ∧ (px g.ps i).2 ≤ 1000)
theorem okG_ok {g : Gut} (h : okG g = true) : g.Ok := by
  simp only [okG, Bool.and_eq_true] at h
  obtain ⟨⟨h0, h1⟩, h2⟩ := h
  simp only [okG0, deepB, Bool.and_eq_true, decide_eq_true_eq] at h0
  refine ⟨h0.1.1.1, h0.1.1.2, h0.2, fun k hk => ?_, fun i hi => ?_⟩
  · have := allN_iff.1 h1 k hk
    simp only [hOk, Bool.and_eq_true, decide_eq_true_eq] at this
    exact this.1
  · have := allN_iff.1 h2 i hi
    simp only [pOk, deepB, Bool.and_eq_true, decide_eq_true_eq] at this
    exact this.1
structure WatOk (g : Gut) (w : Nat → Int) : Prop where
  t : ∀ k : Nat, k < 17 → 0 ≤ w k ∧ w k ≤ 1000
  z : ∀ k : Nat, k < 17 → g.n ≤ (k : Int) → w k = 0
theorem okW_ok {g : Gut} {w : Nat → Int} (h : okW17 g w = true) : WatOk g w := by
  simp only [okW17, Bool.and_eq_true] at h
  have hg := okG_ok h.1
  have hd := hg.dp
  refine ⟨fun k hk => ?_, fun k hk hn => ?_⟩
  · have := allN_iff.1 h.2 k hk
    simp only [wOk, Bool.and_eq_true, decide_eq_true_eq] at this
    omega
  · have := allN_iff.1 h.2 k hk
    simp only [wOk, Bool.and_eq_true, Bool.or_eq_true, decide_eq_true_eq, beq_iff_eq] at this
    rcases this.2 with h2 | h2
    · omega
    · exact h2
end Go.V
/- Contracts: what the laws do with gutters and water. -/
set_option linter.unusedVariables false
set_option linter.unusedSimpArgs false
namespace Go.V
/-- Heights as cells. -/
def hC (h : Nat → Int) : List Value := tab 17 fun i => .int .i8 (h i)
@[simp] theorem hC_len (h : Nat → Int) : (hC h).length = 17 := by simp [hC]
end Go.V
namespace Go.Proofs.Ytcnenmcagkbppaa
open Go.V
end Go.Proofs.Ytcnenmcagkbppaa
/- Contracts: valid gutters and water, both sides. -/
set_option linter.unusedVariables false
set_option linter.unusedSimpArgs false
namespace Go.V
/- Words for the walks of this text: their default arguments are tried where they are used. -/
theorem go_D4 {P Q : Prop} (k : Q) (h : P := by first | exact Nat.le_of_ble_eq_true rfl | exact rfl | decide | omega | (simp [splice]; done) | (constructor <;> omega) | (simp [splice]; omega)) : P ∧ Q := ⟨h, k⟩
theorem lk_D4 {α : Type} {o : Option α} {K : α → Prop} {x : α} (k : K x) (h : o = some x := by first | exact watA (by omega) | exact watA' (by omega) | exact hDA (by omega) | exact hDA' (by omega) | exact gutA (by omega) | exact pipeA (by omega) | exact pipeB (by omega) | exact pipeSA (by omega) | exact pipeSB (by omega) | exact intA (by omega) | exact intA' (by omega)) : optK o K := optK_of h k
theorem sc_D4 {P : Program} {g : FuncId} {args args' : List D} {res : D} (h : Sat P g args res) (e : args' = args := by repeat (first | rfl | exact vfull (by first | (simp [splice]; done) | (simp [splice]; omega)) | exact rfull (by first | (simp [splice]; done) | (simp [splice]; omega)) | exact vpipe (by simp; done) (by omega) | exact vsplice (by simp) (by simp) | refine ceq ?_ ?_ | refine Eq.trans (vsplice (by first | (simp; done) | (simp; omega)) (by first | (simp; done) | (simp; omega))) ?_)) : Sat P g args' res := Sat.of_eq h e
theorem leaf_D4 {P : Prop} (h : P := by first | rfl | exact succ8 (by omega) | exact succ64 (by omega) | exact CapOk.fn (by assumption) _ _ | exact vintS (by omega) | exact vintS (by rw [w64 (by omega) (by omega)]; omega) | exact vintS (by rw [w8 (by omega) (by omega)]; omega) | exact vslcS (by omega) | exact vslcS (by simp)) : P := h
theorem hold_D4 {P : Prop} (h : P := by (repeat' (first | exact trivial | apply And.intro)) <;> (first | rfl | exact succ8 (by omega) | exact succ64 (by omega) | exact CapOk.fn (by assumption) _ _ | exact vintS (by omega) | exact vintS (by rw [w64 (by omega) (by omega)]; omega) | exact vintS (by rw [w8 (by omega) (by omega)]; omega) | exact vslcS (by omega) | exact vslcS (by simp))) : P := h
end Go.V
namespace Go.V
theorem vfullS {l : List Value} {n : Nat} (h : l.length ≤ n) : some (D.v (.agg ⟨l⟩)) = some (D.v (.agg ⟨(l.drop 0).take n⟩)) := by rw [List.drop_zero, take_full h]
theorem pipeSA {ps : List (Int × Int)} {i : Nat} {x y : Value} (h : i < ps.length) : nth (splice [x, y] 0 (((pipesC ps).drop ((i : Int).toNat * 2)).take 2)) 0 = some (.int .i8 (px ps i).1) := by
  rw [show (i : Int).toNat * 2 = i * 2 by simp, pipe_sub h]; rfl
theorem pipeSB {ps : List (Int × Int)} {i : Nat} {x y : Value} (h : i < ps.length) : nth (splice [x, y] 0 (((pipesC ps).drop ((i : Int).toNat * 2)).take 2)) 1 = some (.int .i16 (px ps i).2) := by
  rw [show (i : Int).toNat * 2 = i * 2 by simp, pipe_sub h]; rfl
def wetK (g : Gut) (w : Nat → Int) (b : Bool) : Int := if okW17 g w = true then (if b = true then 0 else 2) else 1
end Go.V
namespace Go.Proofs.Ytcnenmcagkbppaa
open Go.V
theorem l06Deep_sat (x : Int) : Sat Try.prog 62 [.v (.int .i64 x)] (.v (.bool (deepB x))) := by
  refine sat_of_wp hMix tOk Try.func62 rfl rfl Try.ntmps62 rfl rfl Try.results62 (by kernel_rfl) ?_
  conv => whnf
  repeat (first | (refine go_D4 ?_; conv => whnf) | (refine lk_D4 ?_; conv => whnf))
  first | refine ⟨_, _, rfl, sc_D4 (l00In_sat _ _ _), ?_⟩ | refine .inl ⟨_, _, rfl, sc_D4 (l00In_sat _ _ _), ?_⟩
  conv => whnf
  repeat (first | (refine go_D4 ?_; conv => whnf) | (refine lk_D4 ?_; conv => whnf))
  first | refine ⟨rfl, _, rfl, ?_⟩ | refine ⟨_, rfl, ?_⟩
  rfl
theorem isDeep64_sat (x : Int) : Sat Try.prog 56 [.v (.int .i64 x)] (.v (.bool (deepB x))) := by
  refine sat_of_wp hMix tOk Try.func56 rfl rfl Try.ntmps56 rfl rfl Try.results56 (by kernel_rfl) ?_
  conv => whnf
  repeat (first | (refine go_D4 ?_; conv => whnf) | (refine lk_D4 ?_; conv => whnf))
  first | refine ⟨_, _, rfl, sc_D4 (within64_sat _ _ _), ?_⟩ | refine .inl ⟨_, _, rfl, sc_D4 (within64_sat _ _ _), ?_⟩
  conv => whnf
  repeat (first | (refine go_D4 ?_; conv => whnf) | (refine lk_D4 ?_; conv => whnf))
  first | refine ⟨rfl, _, rfl, ?_⟩ | refine ⟨_, rfl, ?_⟩
  rfl
theorem isDeep16_sat (x : Int) (hx : -32768 ≤ x ∧ x ≤ 32767) : Sat Try.prog 85 [.v (.int .i16 x)] (.v (.bool (deepB x))) := by
  refine sat_of_wp hMix tOk Try.func85 rfl rfl Try.ntmps85 rfl rfl Try.results85 (by kernel_rfl) ?_
  conv => whnf
  repeat (first | (refine go_D4 ?_; conv => whnf) | (refine lk_D4 ?_; conv => whnf))
  rw [show IntKind.i64.wrap x = x from w64 (by omega) (by omega)]
  first | refine ⟨_, _, rfl, sc_D4 (within64_sat _ _ _), ?_⟩ | refine .inl ⟨_, _, rfl, sc_D4 (within64_sat _ _ _), ?_⟩
  conv => whnf
  repeat (first | (refine go_D4 ?_; conv => whnf) | (refine lk_D4 ?_; conv => whnf))
  first | refine ⟨rfl, _, rfl, ?_⟩ | refine ⟨_, rfl, ?_⟩
  rfl
theorem within32_sat (n lo hi : Int) : Sat Try.prog 98 [.v (.int .i32 n), .v (.int .i32 lo), .v (.int .i32 hi)] (.v (.bool (decide (lo ≤ n) && decide (n ≤ hi)))) := by
  refine sat_of_wp hMix tOk Try.func98 rfl rfl Try.ntmps98 rfl rfl Try.results98 (by kernel_rfl) ?_
  conv => whnf
  cases h1 : decide (lo ≤ n)
  · exact ⟨rfl, _, rfl, rfl⟩
  · conv => whnf
    cases h2 : decide (n ≤ hi) <;> exact ⟨rfl, _, rfl, rfl⟩
theorem l06Ok_sat (g : Gut) (hg : g.In) : Sat Try.prog 39 [.ref false (gutD false g) 0] (.v (.bool (okG g))) := by
  have hn := hg.n
  have hdp := hg.dp
  have en : IntKind.i64.wrap g.n = g.n := w64 (by omega) (by omega)
  have ed : IntKind.i64.wrap g.dp = g.dp := w64 (by omega) (by omega)
  refine sat_of_wp hMix tOk Try.func39 rfl rfl Try.ntmps39 rfl rfl Try.results39 (by kernel_rfl) ?_
  conv => whnf
  repeat (first | (refine go_D4 ?_; conv => whnf) | (refine lk_D4 ?_; conv => whnf))
  rw [en]
  first | refine ⟨_, _, rfl, sc_D4 (l00In_sat _ _ _), ?_⟩ | refine .inl ⟨_, _, rfl, sc_D4 (l00In_sat _ _ _), ?_⟩
  conv => whnf
  repeat (first | (refine go_D4 ?_; conv => whnf) | (refine lk_D4 ?_; conv => whnf))
  cases h1 : (decide (g.n ≥ 1) && decide (g.n ≤ 17))
  · rw [show okG g = false by unfold okG okG0; rw [show (decide (1 ≤ g.n) && decide (g.n ≤ 17)) = false from h1]; rfl]
    conv => whnf
    repeat (first | (refine go_D4 ?_; conv => whnf) | (refine lk_D4 ?_; conv => whnf))
    first | refine ⟨rfl, _, rfl, ?_⟩ | refine ⟨_, rfl, ?_⟩
    rfl
  have h1' : 1 ≤ g.n ∧ g.n ≤ 17 := by simpa using h1
  have eu : IntKind.u64.wrap g.n = g.n := wu64 (by omega) (by omega)
  conv => whnf
  repeat (first | (refine go_D4 ?_; conv => whnf) | (refine lk_D4 ?_; conv => whnf))
  rw [ed]
  first | refine ⟨_, _, rfl, sc_D4 (l06Deep_sat _), ?_⟩ | refine .inl ⟨_, _, rfl, sc_D4 (l06Deep_sat _), ?_⟩
  conv => whnf
  repeat (first | (refine go_D4 ?_; conv => whnf) | (refine lk_D4 ?_; conv => whnf))
  cases h2 : deepB g.dp
  · rw [show okG g = false by unfold okG okG0; rw [show (decide (1 ≤ g.n) && decide (g.n ≤ 17)) = true from h1, h2]; rfl]
    conv => whnf
    repeat (first | (refine go_D4 ?_; conv => whnf) | (refine lk_D4 ?_; conv => whnf))
    first | refine ⟨rfl, _, rfl, ?_⟩ | refine ⟨_, rfl, ?_⟩
    rfl
  conv => whnf
  repeat (first | (refine go_D4 ?_; conv => whnf) | (refine lk_D4 ?_; conv => whnf))
  rw [eu]
  repeat (first | (refine go_D4 ?_; conv => whnf) | (refine lk_D4 ?_; conv => whnf))
  cases h3 : (g.lv.fdiv (2 ^ (min g.n.toNat IntKind.u32.bits)) != 0)
  case true =>
    have h3' : (g.lv.fdiv (2 ^ (min g.n.toNat IntKind.u32.bits)) == 0) = false := by simpa using h3
    rw [show okG g = false by unfold okG okG0; rw [show (decide (1 ≤ g.n) && decide (g.n ≤ 17)) = true from h1, h2, h3']; rfl]
    conv => whnf
    repeat (first | (refine go_D4 ?_; conv => whnf) | (refine lk_D4 ?_; conv => whnf))
    first | refine ⟨rfl, _, rfl, ?_⟩ | refine ⟨_, rfl, ?_⟩
    rfl
  have h3' : (g.lv.fdiv (2 ^ (min g.n.toNat IntKind.u32.bits)) == 0) = true := by simpa using h3
  conv => whnf
  repeat (first | (refine go_D4 ?_; conv => whnf) | (refine lk_D4 ?_; conv => whnf))
  cases h4 : decide ((g.ps.length : Int) > 4)
  case true =>
    have h4' : decide (g.ps.length ≤ 4) = false := by simp at h4 ⊢; omega
    rw [show okG g = false by unfold okG okG0; rw [show (decide (1 ≤ g.n) && decide (g.n ≤ 17)) = true from h1, h2, h3', h4']; rfl]
    conv => whnf
    repeat (first | (refine go_D4 ?_; conv => whnf) | (refine lk_D4 ?_; conv => whnf))
    first | refine ⟨rfl, _, rfl, ?_⟩ | refine ⟨_, rfl, ?_⟩
    rfl
  have h4' : g.ps.length ≤ 4 := by simp at h4; omega
  have h0 : okG0 g = true := by unfold okG0; rw [show (decide (1 ≤ g.n) && decide (g.n ≤ 17)) = true from h1, h2, h3']; simpa using h4'
  clear h1 h2 h3 h3' h4
  conv => whnf
  repeat (first | (refine go_D4 ?_; conv => whnf) | (refine lk_D4 ?_; conv => whnf))
  refine loop_rule (α := Nat) (fun k => [(0, .ref false (gutD false g) 0), (3, .v (.int .i8 k))]) (fun k => []) (fun k => k ≤ 17 ∧ ∀ j, j < k → hOk g j = true) (fun k => 17 - k) (0) ?_ (sim_of (rn := []) rfl ?_ ?_) ?_
  · exact ⟨Nat.zero_le _, fun j hj => by omega⟩
  · exact hold_D4
  · ((repeat' (first | exact trivial | apply And.intro)) <;> ((first | refine ⟨_, _, rfl, rfl, ?_⟩ ); rfl))
  rintro k ⟨hk, hall⟩
  conv => whnf
  repeat (first | (refine go_D4 ?_; conv => whnf) | (refine lk_D4 ?_; conv => whnf))
  cases h5 : decide ((k : Int) < 17)
  case true =>
    have hk17 : k < 17 := by simp at h5; omega
    have hhk := hg.h k
    have eh : IntKind.i64.wrap (g.h k) = g.h k := w64 (by omega) (by omega)
    conv => whnf
    repeat (first | (refine go_D4 ?_; conv => whnf) | (refine lk_D4 ?_; conv => whnf))
    rw [eh]
    first | refine ⟨_, _, rfl, sc_D4 (l00In_sat _ _ _), ?_⟩ | refine .inl ⟨_, _, rfl, sc_D4 (l00In_sat _ _ _), ?_⟩
    conv => whnf
    repeat (first | (refine go_D4 ?_; conv => whnf) | (refine lk_D4 ?_; conv => whnf))
    cases h6 : (decide (g.h k ≥ 0) && decide (g.h k ≤ 9))
    · have hb : hOk g k = false := by unfold hOk; rw [show (decide (0 ≤ g.h k) && decide (g.h k ≤ 9)) = false from h6]; rfl
      rw [show okG g = false by unfold okG; rw [h0, allN_false hk17 hb]; rfl]
      conv => whnf
      repeat (first | (refine go_D4 ?_; conv => whnf) | (refine lk_D4 ?_; conv => whnf))
      first | refine ⟨rfl, _, rfl, ?_⟩ | refine ⟨_, rfl, ?_⟩
      rfl
    conv => whnf
    repeat (first | (refine go_D4 ?_; conv => whnf) | (refine lk_D4 ?_; conv => whnf))
    cases h7 : decide ((k : Int) ≥ g.n)
    · have hb : hOk g k = true := by
        unfold hOk
        rw [show (decide (0 ≤ g.h k) && decide (g.h k ≤ 9)) = true from h6, show decide ((k : Int) < g.n) = true by simp at h7 ⊢; omega]
        rfl
      have hall' := below_succ (p := fun j => hOk g j = true) hall hb
      conv => whnf
      repeat (first | (refine go_D4 ?_; conv => whnf) | (refine lk_D4 ?_; conv => whnf))
      refine ⟨k + 1, ?_, ?_, sim_of (rn := []) rfl ?_ ?_⟩
      · (dsimp only; omega)
      · exact ⟨by omega, hall'⟩
      · exact hold_D4
      · ((repeat' (first | exact trivial | apply And.intro)) <;> ((first | refine ⟨_, _, rfl, rfl, ?_⟩ ); rfl))
    have h7' : decide ((k : Int) < g.n) = false := by simp at h7 ⊢; omega
    conv => whnf
    repeat (first | (refine go_D4 ?_; conv => whnf) | (refine lk_D4 ?_; conv => whnf))
    cases h8 : (g.h k != 0)
    · have hb : hOk g k = true := by
        unfold hOk
        rw [show (decide (0 ≤ g.h k) && decide (g.h k ≤ 9)) = true from h6, h7']
        simpa using h8
      have hall' := below_succ (p := fun j => hOk g j = true) hall hb
      conv => whnf
      repeat (first | (refine go_D4 ?_; conv => whnf) | (refine lk_D4 ?_; conv => whnf))
      refine ⟨k + 1, ?_, ?_, sim_of (rn := []) rfl ?_ ?_⟩
      · (dsimp only; omega)
      · exact ⟨by omega, hall'⟩
      · exact hold_D4
      · ((repeat' (first | exact trivial | apply And.intro)) <;> ((first | refine ⟨_, _, rfl, rfl, ?_⟩ ); rfl))
    have hb : hOk g k = false := by
      unfold hOk
      rw [show (decide (0 ≤ g.h k) && decide (g.h k ≤ 9)) = true from h6, h7']
      simpa using h8
    rw [show okG g = false by unfold okG; rw [h0, allN_false hk17 hb]; rfl]
    conv => whnf
    repeat (first | (refine go_D4 ?_; conv => whnf) | (refine lk_D4 ?_; conv => whnf))
    first | refine ⟨rfl, _, rfl, ?_⟩ | refine ⟨_, rfl, ?_⟩
    rfl
  have hk17 : k = 17 := by simp at h5; omega
  subst hk17
  have hH : (List.range 17).all (hOk g) = true := allN_iff.2 hall
  clear hall h5
  conv => whnf
  repeat (first | (refine go_D4 ?_; conv => whnf) | (refine lk_D4 ?_; conv => whnf))
  refine loop_rule (α := Nat) (fun i => [(0, .ref false (gutD false g) 0), (4, .v (.int .i64 i))]) (fun i => []) (fun i => i ≤ g.ps.length ∧ ∀ j, j < i → pOk g j = true) (fun i => g.ps.length - i) (0) ?_ (sim_of (rn := []) rfl ?_ ?_) ?_
  · exact ⟨Nat.zero_le _, fun j hj => by omega⟩
  · exact hold_D4
  · ((repeat' (first | exact trivial | apply And.intro)) <;> ((first | refine ⟨_, _, rfl, rfl, ?_⟩ ); rfl))
  rintro i ⟨hi, hall⟩
  conv => whnf
  repeat (first | (refine go_D4 ?_; conv => whnf) | (refine lk_D4 ?_; conv => whnf))
  cases h5 : decide ((i : Int) < (g.ps.length : Int))
  · have hin : i = g.ps.length := by simp at h5; omega
    subst hin
    rw [show okG g = true by unfold okG; rw [h0, hH, allN_iff.2 hall]; rfl]
    conv => whnf
    repeat (first | (refine go_D4 ?_; conv => whnf) | (refine lk_D4 ?_; conv => whnf))
    first | refine ⟨rfl, _, rfl, ?_⟩ | refine ⟨_, rfl, ?_⟩
    rfl
  have hin : i < g.ps.length := by simpa using h5
  have hp := hg.ps i hin
  have et : IntKind.i64.wrap (px g.ps i).2 = (px g.ps i).2 := w64 (by omega) (by omega)
  have bad : pOk g i = false → okG g = false := fun hb => by unfold okG; rw [h0, hH, allN_false hin hb]; rfl
  conv => whnf
  repeat (first | (refine go_D4 ?_; conv => whnf) | (refine lk_D4 ?_; conv => whnf))
  cases h6 : decide ((px g.ps i).1 < 0)
  case true =>
    rw [bad (by unfold pOk; rw [show decide (0 ≤ (px g.ps i).1) = false by simp at h6 ⊢; omega]; rfl)]
    conv => whnf
    repeat (first | (refine go_D4 ?_; conv => whnf) | (refine lk_D4 ?_; conv => whnf))
    first | refine ⟨rfl, _, rfl, ?_⟩ | refine ⟨_, rfl, ?_⟩
    rfl
  have h6' : decide (0 ≤ (px g.ps i).1) = true := by simp at h6 ⊢; omega
  conv => whnf
  repeat (first | (refine go_D4 ?_; conv => whnf) | (refine lk_D4 ?_; conv => whnf))
  cases h7 : decide ((px g.ps i).1 ≥ g.n)
  case true =>
    rw [bad (by unfold pOk; rw [h6', show decide ((px g.ps i).1 ≤ g.n - 1) = false by simp at h7 ⊢; omega]; rfl)]
    conv => whnf
    repeat (first | (refine go_D4 ?_; conv => whnf) | (refine lk_D4 ?_; conv => whnf))
    first | refine ⟨rfl, _, rfl, ?_⟩ | refine ⟨_, rfl, ?_⟩
    rfl
  have h7' : decide ((px g.ps i).1 ≤ g.n - 1) = true := by simp at h7 ⊢; omega
  conv => whnf
  repeat (first | (refine go_D4 ?_; conv => whnf) | (refine lk_D4 ?_; conv => whnf))
  rw [et]
  first | refine ⟨_, _, rfl, sc_D4 (l06Deep_sat _), ?_⟩ | refine .inl ⟨_, _, rfl, sc_D4 (l06Deep_sat _), ?_⟩
  conv => whnf
  repeat (first | (refine go_D4 ?_; conv => whnf) | (refine lk_D4 ?_; conv => whnf))
  cases h8 : deepB (px g.ps i).2
  · rw [bad (by unfold pOk; rw [h6', h7', h8]; rfl)]
    conv => whnf
    repeat (first | (refine go_D4 ?_; conv => whnf) | (refine lk_D4 ?_; conv => whnf))
    first | refine ⟨rfl, _, rfl, ?_⟩ | refine ⟨_, rfl, ?_⟩
    rfl
  conv => whnf
  repeat (first | (refine go_D4 ?_; conv => whnf) | (refine lk_D4 ?_; conv => whnf))
  cases h9 : decide ((i : Int) > 0)
  · have hb : pOk g i = true := by
      unfold pOk
      have : i = 0 := by simp at h9; omega
      rw [h6', h7', h8, this]; rfl
    have hall' := below_succ (p := fun j => pOk g j = true) hall hb
    conv => whnf
    repeat (first | (refine go_D4 ?_; conv => whnf) | (refine lk_D4 ?_; conv => whnf))
    refine ⟨i + 1, ?_, ?_, sim_of (rn := []) rfl ?_ ?_⟩
    · (dsimp only; omega)
    · exact ⟨by omega, hall'⟩
    · exact hold_D4
    · ((repeat' (first | exact trivial | apply And.intro)) <;> ((first | refine ⟨_, _, rfl, rfl, ?_⟩ ); rfl))
  have hi0 : 0 < i := by simp at h9; omega
  have hi0' : (i == 0) = false := by simp; omega
  have ei : IntKind.i64.wrap ((i : Int) - 1) = ((i - 1 : Nat) : Int) := by rw [w64 (by omega) (by omega)]; omega
  conv => whnf
  repeat (first | (refine go_D4 ?_; conv => whnf) | (refine lk_D4 ?_; conv => whnf))
  rw [ei]
  repeat (first | (refine go_D4 ?_; conv => whnf) | (refine lk_D4 ?_; conv => whnf))
  cases h10 : decide ((px g.ps i).1 ≤ (px g.ps (i - 1)).1)
  · have hb : pOk g i = true := by
      unfold pOk
      rw [h6', h7', h8, hi0', show decide ((px g.ps (i - 1)).1 < (px g.ps i).1) = true by simp at h10 ⊢; omega]; rfl
    have hall' := below_succ (p := fun j => pOk g j = true) hall hb
    conv => whnf
    repeat (first | (refine go_D4 ?_; conv => whnf) | (refine lk_D4 ?_; conv => whnf))
    refine ⟨i + 1, ?_, ?_, sim_of (rn := []) rfl ?_ ?_⟩
    · (dsimp only; omega)
    · exact ⟨by omega, hall'⟩
    · exact hold_D4
    · ((repeat' (first | exact trivial | apply And.intro)) <;> ((first | refine ⟨_, _, rfl, rfl, ?_⟩ ); rfl))
  rw [bad (by unfold pOk; rw [h6', h7', h8, hi0', show decide ((px g.ps (i - 1)).1 < (px g.ps i).1) = false by simp at h10 ⊢; omega]; rfl)]
  conv => whnf
  repeat (first | (refine go_D4 ?_; conv => whnf) | (refine lk_D4 ?_; conv => whnf))
  first | refine ⟨rfl, _, rfl, ?_⟩ | refine ⟨_, rfl, ?_⟩
  rfl
theorem validGutter_sat (g : Gut) (hg : g.In) : Sat Try.prog 34 [gutD false g] (.v (.bool (okG g))) := by
  have hn := hg.n
  have hdp := hg.dp
  have en : IntKind.i64.wrap g.n = g.n := w64 (by omega) (by omega)
  refine sat_of_wp hMix tOk Try.func34 rfl rfl Try.ntmps34 rfl rfl Try.results34 (by kernel_rfl) ?_
  conv => whnf
  repeat (first | (refine go_D4 ?_; conv => whnf) | (refine lk_D4 ?_; conv => whnf))
  first | refine ⟨_, _, rfl, sc_D4 (within8_sat _ _ _), ?_⟩ | refine .inl ⟨_, _, rfl, sc_D4 (within8_sat _ _ _), ?_⟩
  conv => whnf
  repeat (first | (refine go_D4 ?_; conv => whnf) | (refine lk_D4 ?_; conv => whnf))
  cases h1 : (decide (1 ≤ g.n) && decide (g.n ≤ 17))
  · rw [show okG g = false by unfold okG okG0; rw [h1]; rfl]
    conv => whnf
    repeat (first | (refine go_D4 ?_; conv => whnf) | (refine lk_D4 ?_; conv => whnf))
    first | refine ⟨rfl, _, rfl, ?_⟩ | refine ⟨_, rfl, ?_⟩
    rfl
  have h1' : 1 ≤ g.n ∧ g.n ≤ 17 := by simpa using h1
  conv => whnf
  repeat (first | (refine go_D4 ?_; conv => whnf) | (refine lk_D4 ?_; conv => whnf))
  first | refine ⟨_, _, rfl, sc_D4 (isDeep16_sat _ hdp), ?_⟩ | refine .inl ⟨_, _, rfl, sc_D4 (isDeep16_sat _ hdp), ?_⟩
  conv => whnf
  repeat (first | (refine go_D4 ?_; conv => whnf) | (refine lk_D4 ?_; conv => whnf))
  cases h2 : deepB g.dp
  · rw [show okG g = false by unfold okG okG0; rw [h1, h2]; rfl]
    conv => whnf
    repeat (first | (refine go_D4 ?_; conv => whnf) | (refine lk_D4 ?_; conv => whnf))
    first | refine ⟨rfl, _, rfl, ?_⟩ | refine ⟨_, rfl, ?_⟩
    rfl
  conv => whnf
  repeat (first | (refine go_D4 ?_; conv => whnf) | (refine lk_D4 ?_; conv => whnf))
  cases h3 : (g.lv.fdiv (2 ^ (min g.n.toNat IntKind.u32.bits)) != 0)
  case true =>
    have h3' : (g.lv.fdiv (2 ^ (min g.n.toNat IntKind.u32.bits)) == 0) = false := by simpa using h3
    rw [show okG g = false by unfold okG okG0; rw [h1, h2, h3']; rfl]
    conv => whnf
    repeat (first | (refine go_D4 ?_; conv => whnf) | (refine lk_D4 ?_; conv => whnf))
    first | refine ⟨rfl, _, rfl, ?_⟩ | refine ⟨_, rfl, ?_⟩
    rfl
  have h3' : (g.lv.fdiv (2 ^ (min g.n.toNat IntKind.u32.bits)) == 0) = true := by simpa using h3
  conv => whnf
  repeat (first | (refine go_D4 ?_; conv => whnf) | (refine lk_D4 ?_; conv => whnf))
  cases h4 : decide ((g.ps.length : Int) > 4)
  case true =>
    have h4' : decide (g.ps.length ≤ 4) = false := by simp at h4 ⊢; omega
    rw [show okG g = false by unfold okG okG0; rw [h1, h2, h3', h4']; rfl]
    conv => whnf
    repeat (first | (refine go_D4 ?_; conv => whnf) | (refine lk_D4 ?_; conv => whnf))
    first | refine ⟨rfl, _, rfl, ?_⟩ | refine ⟨_, rfl, ?_⟩
    rfl
  have h4' : g.ps.length ≤ 4 := by simp at h4; omega
  have h0 : okG0 g = true := by unfold okG0; rw [h1, h2, h3']; simpa using h4'
  clear h1 h2 h3 h3' h4
  conv => whnf
  repeat (first | (refine go_D4 ?_; conv => whnf) | (refine lk_D4 ?_; conv => whnf))
  refine loop_rule (α := Nat) (fun k => [(1, .ptr (1, 0, 0) 0), (32, .agg (hD g.h)), (33, .v (.int .i64 k))]) (fun k => [((1, 0, 0), gutD false g)]) (fun k => k ≤ 17 ∧ ∀ j, j < k → hOk g j = true) (fun k => 17 - k) (0) ?_ (sim_of (rn := [((1, 0, 0), (1, 0, 0))]) rfl ?_ ?_) ?_
  · exact ⟨Nat.zero_le _, fun j hj => by omega⟩
  · exact hold_D4
  · ((repeat' (first | exact trivial | apply And.intro)) <;> ((first | refine ⟨_, _, rfl, rfl, ?_⟩ ); rfl))
  rintro k ⟨hk, hall⟩
  conv => whnf
  repeat (first | (refine go_D4 ?_; conv => whnf) | (refine lk_D4 ?_; conv => whnf))
  cases h5 : decide ((k : Int) < 17)
  case true =>
    have hk17 : k < 17 := by simp at h5; omega
    conv => whnf
    repeat (first | (refine go_D4 ?_; conv => whnf) | (refine lk_D4 ?_; conv => whnf))
    first | refine ⟨_, _, rfl, sc_D4 (within8_sat _ _ _), ?_⟩ | refine .inl ⟨_, _, rfl, sc_D4 (within8_sat _ _ _), ?_⟩
    conv => whnf
    repeat (first | (refine go_D4 ?_; conv => whnf) | (refine lk_D4 ?_; conv => whnf))
    cases h6 : (decide (0 ≤ g.h k) && decide (g.h k ≤ 9))
    · have hb : hOk g k = false := by unfold hOk; rw [h6]; rfl
      rw [show okG g = false by unfold okG; rw [h0, allN_false hk17 hb]; rfl]
      conv => whnf
      repeat (first | (refine go_D4 ?_; conv => whnf) | (refine lk_D4 ?_; conv => whnf))
      first | refine ⟨rfl, _, rfl, ?_⟩ | refine ⟨_, rfl, ?_⟩
      rfl
    conv => whnf
    repeat (first | (refine go_D4 ?_; conv => whnf) | (refine lk_D4 ?_; conv => whnf))
    cases h8 : (g.h k != 0)
    · have hb : hOk g k = true := by
        unfold hOk
        rw [h6, show (g.h k == 0) = true by simpa using h8]
        simp
      have hall' := below_succ (p := fun j => hOk g j = true) hall hb
      conv => whnf
      repeat (first | (refine go_D4 ?_; conv => whnf) | (refine lk_D4 ?_; conv => whnf))
      refine ⟨k + 1, ?_, ?_, sim_of (rn := [((1, 0, 0), (1, 0, 0))]) rfl ?_ ?_⟩
      · (dsimp only; omega)
      · exact ⟨by omega, hall'⟩
      · exact hold_D4
      · ((repeat' (first | exact trivial | apply And.intro)) <;> ((first | refine ⟨_, _, rfl, rfl, ?_⟩ ); rfl))
    conv => whnf
    repeat (first | (refine go_D4 ?_; conv => whnf) | (refine lk_D4 ?_; conv => whnf))
    rw [en]
    cases h7 : decide ((k : Int) ≥ g.n)
    · have hb : hOk g k = true := by
        unfold hOk
        rw [h6, show decide ((k : Int) < g.n) = true by simp at h7 ⊢; omega]
        rfl
      have hall' := below_succ (p := fun j => hOk g j = true) hall hb
      conv => whnf
      repeat (first | (refine go_D4 ?_; conv => whnf) | (refine lk_D4 ?_; conv => whnf))
      refine ⟨k + 1, ?_, ?_, sim_of (rn := [((1, 0, 0), (1, 0, 0))]) rfl ?_ ?_⟩
      · (dsimp only; omega)
      · exact ⟨by omega, hall'⟩
      · exact hold_D4
      · ((repeat' (first | exact trivial | apply And.intro)) <;> ((first | refine ⟨_, _, rfl, rfl, ?_⟩ ); rfl))
    have hb : hOk g k = false := by
      unfold hOk
      rw [h6, show decide ((k : Int) < g.n) = false by simp at h7 ⊢; omega]
      simpa using h8
    rw [show okG g = false by unfold okG; rw [h0, allN_false hk17 hb]; rfl]
    conv => whnf
    repeat (first | (refine go_D4 ?_; conv => whnf) | (refine lk_D4 ?_; conv => whnf))
    first | refine ⟨rfl, _, rfl, ?_⟩ | refine ⟨_, rfl, ?_⟩
    rfl
  have hk17 : k = 17 := by simp at h5; omega
  subst hk17
  have hH : (List.range 17).all (hOk g) = true := allN_iff.2 hall
  clear hall h5
  have en1 : IntKind.i8.wrap (g.n - 1) = g.n - 1 := w8 (by omega) (by omega)
  conv => whnf
  repeat (first | (refine go_D4 ?_; conv => whnf) | (refine lk_D4 ?_; conv => whnf))
  refine loop_rule (α := Nat) (fun i => [(1, .ptr (1, 0, 0) 0), (53, pipesD false g.ps), (54, .v (.int .i64 g.ps.length)), (55, .v (.int .i64 i))]) (fun i => [((1, 0, 0), gutD false g)]) (fun i => i ≤ g.ps.length ∧ ∀ j, j < i → pOk g j = true) (fun i => g.ps.length - i) (0) ?_ (sim_of (rn := [((1, 0, 0), (1, 0, 0))]) rfl ?_ ?_) ?_
  · exact ⟨Nat.zero_le _, fun j hj => by omega⟩
  · exact hold_D4
  · ((repeat' (first | exact trivial | apply And.intro)) <;> ((first | refine ⟨_, _, rfl, rfl, ?_⟩ ); rfl))
  rintro i ⟨hi, hall⟩
  conv => whnf
  repeat (first | (refine go_D4 ?_; conv => whnf) | (refine lk_D4 ?_; conv => whnf))
  cases h5 : decide ((i : Int) < (g.ps.length : Int))
  · have hin : i = g.ps.length := by simp at h5; omega
    subst hin
    rw [show okG g = true by unfold okG; rw [h0, hH, allN_iff.2 hall]; rfl]
    conv => whnf
    repeat (first | (refine go_D4 ?_; conv => whnf) | (refine lk_D4 ?_; conv => whnf))
    first | refine ⟨rfl, _, rfl, ?_⟩ | refine ⟨_, rfl, ?_⟩
    rfl
  have hin : i < g.ps.length := by simpa using h5
  have hp := hg.ps i hin
  have bad : pOk g i = false → okG g = false := fun hb => by unfold okG; rw [h0, hH, allN_false hin hb]; rfl
  conv => whnf
  repeat (first | (refine go_D4 ?_; conv => whnf) | (refine lk_D4 ?_; conv => whnf))
  rw [en1]
  first | refine ⟨_, _, rfl, sc_D4 (within8_sat _ _ _), ?_⟩ | refine .inl ⟨_, _, rfl, sc_D4 (within8_sat _ _ _), ?_⟩
  conv => whnf
  repeat (first | (refine go_D4 ?_; conv => whnf) | (refine lk_D4 ?_; conv => whnf))
  cases h6 : (decide (0 ≤ (px g.ps i).1) && decide ((px g.ps i).1 ≤ g.n - 1))
  · rw [bad (by unfold pOk; rw [h6]; rfl)]
    conv => whnf
    repeat (first | (refine go_D4 ?_; conv => whnf) | (refine lk_D4 ?_; conv => whnf))
    first | refine ⟨rfl, _, rfl, ?_⟩ | refine ⟨_, rfl, ?_⟩
    rfl
  conv => whnf
  repeat (first | (refine go_D4 ?_; conv => whnf) | (refine lk_D4 ?_; conv => whnf))
  first | refine ⟨_, _, rfl, sc_D4 (isDeep16_sat _ hp.2), ?_⟩ | refine .inl ⟨_, _, rfl, sc_D4 (isDeep16_sat _ hp.2), ?_⟩
  conv => whnf
  repeat (first | (refine go_D4 ?_; conv => whnf) | (refine lk_D4 ?_; conv => whnf))
  cases h8 : deepB (px g.ps i).2
  · rw [bad (by unfold pOk; rw [h6, h8]; rfl)]
    conv => whnf
    repeat (first | (refine go_D4 ?_; conv => whnf) | (refine lk_D4 ?_; conv => whnf))
    first | refine ⟨rfl, _, rfl, ?_⟩ | refine ⟨_, rfl, ?_⟩
    rfl
  conv => whnf
  repeat (first | (refine go_D4 ?_; conv => whnf) | (refine lk_D4 ?_; conv => whnf))
  cases h9 : decide ((i : Int) > 0)
  · have hb : pOk g i = true := by
      unfold pOk
      have : i = 0 := by simp at h9; omega
      rw [h6, h8, this]; rfl
    have hall' := below_succ (p := fun j => pOk g j = true) hall hb
    conv => whnf
    repeat (first | (refine go_D4 ?_; conv => whnf) | (refine lk_D4 ?_; conv => whnf))
    refine ⟨i + 1, ?_, ?_, sim_of (rn := [((1, 0, 0), (1, 0, 0))]) rfl ?_ ?_⟩
    · (dsimp only; omega)
    · exact ⟨by omega, hall'⟩
    · exact hold_D4
    · ((repeat' (first | exact trivial | apply And.intro)) <;> ((first | refine ⟨_, _, rfl, rfl, ?_⟩ ); rfl))
  have hi0 : 0 < i := by simp at h9; omega
  have hi0' : (i == 0) = false := by simp; omega
  have ei : IntKind.i64.wrap ((i : Int) - 1) = ((i - 1 : Nat) : Int) := by rw [w64 (by omega) (by omega)]; omega
  conv => whnf
  repeat (first | (refine go_D4 ?_; conv => whnf) | (refine lk_D4 ?_; conv => whnf))
  rw [ei]
  repeat (first | (refine go_D4 ?_; conv => whnf) | (refine lk_D4 ?_; conv => whnf))
  cases h10 : decide ((px g.ps (i - 1)).1 ≥ (px g.ps i).1)
  · have hb : pOk g i = true := by
      unfold pOk
      rw [h6, h8, hi0', show decide ((px g.ps (i - 1)).1 < (px g.ps i).1) = true by simp at h10 ⊢; omega]; rfl
    have hall' := below_succ (p := fun j => pOk g j = true) hall hb
    conv => whnf
    repeat (first | (refine go_D4 ?_; conv => whnf) | (refine lk_D4 ?_; conv => whnf))
    refine ⟨i + 1, ?_, ?_, sim_of (rn := [((1, 0, 0), (1, 0, 0))]) rfl ?_ ?_⟩
    · (dsimp only; omega)
    · exact ⟨by omega, hall'⟩
    · exact hold_D4
    · ((repeat' (first | exact trivial | apply And.intro)) <;> ((first | refine ⟨_, _, rfl, rfl, ?_⟩ ); rfl))
  rw [bad (by unfold pOk; rw [h6, h8, hi0', show decide ((px g.ps (i - 1)).1 < (px g.ps i).1) = false by simp at h10 ⊢; omega]; rfl)]
  conv => whnf
  repeat (first | (refine go_D4 ?_; conv => whnf) | (refine lk_D4 ?_; conv => whnf))
  first | refine ⟨rfl, _, rfl, ?_⟩ | refine ⟨_, rfl, ?_⟩
  rfl
theorem validWater_sat (g : Gut) (hg : g.In) (w : Nat → Int) (hw : WatIn w) : Sat Try.prog 94 [gutD false g, watD w] (.v (.bool (okW17 g w))) := by
  have hdp := hg.dp
  have hn := hg.n
  have ed : IntKind.i32.wrap g.dp = g.dp := w32 (by omega) (by omega)
  have en : IntKind.i64.wrap g.n = g.n := w64 (by omega) (by omega)
  refine sat_of_wp hMix tOk Try.func94 rfl rfl Try.ntmps94 rfl rfl Try.results94 (by kernel_rfl) ?_
  conv => whnf
  repeat (first | (refine go_D4 ?_; conv => whnf) | (refine lk_D4 ?_; conv => whnf))
  first | refine ⟨_, _, rfl, sc_D4 (validGutter_sat g hg), ?_⟩ | refine .inl ⟨_, _, rfl, sc_D4 (validGutter_sat g hg), ?_⟩
  conv => whnf
  repeat (first | (refine go_D4 ?_; conv => whnf) | (refine lk_D4 ?_; conv => whnf))
  cases h1 : okG g
  · rw [show okW17 g w = false by unfold okW17; rw [h1]; rfl]
    conv => whnf
    repeat (first | (refine go_D4 ?_; conv => whnf) | (refine lk_D4 ?_; conv => whnf))
    first | refine ⟨rfl, _, rfl, ?_⟩ | refine ⟨_, rfl, ?_⟩
    rfl
  conv => whnf
  repeat (first | (refine go_D4 ?_; conv => whnf) | (refine lk_D4 ?_; conv => whnf))
  refine loop_rule (α := Nat) (fun k => [(2, .ptr (2, 0, 0) 0), (10, watD w), (11, .v (.int .i64 k))]) (fun k => [((2, 0, 0), gutD false g)]) (fun k => k ≤ 17 ∧ ∀ j, j < k → wOk g w j = true) (fun k => 17 - k) (0) ?_ (sim_of (rn := [((2, 0, 0), (2, 0, 0))]) rfl ?_ ?_) ?_
  · exact ⟨Nat.zero_le _, fun j hj => by omega⟩
  · ((repeat' (first | exact trivial | apply And.intro)) <;> (first | rfl | (exact vfullS (by simp)) | exact leaf_D4))
  · ((repeat' (first | exact trivial | apply And.intro)) <;> ((first | refine ⟨_, _, rfl, rfl, ?_⟩ ); rfl))
  rintro k ⟨hk, hall⟩
  conv => whnf
  repeat (first | (refine go_D4 ?_; conv => whnf) | (refine lk_D4 ?_; conv => whnf))
  cases h5 : decide ((k : Int) < 17)
  · have hk17 : k = 17 := by simp at h5; omega
    subst hk17
    rw [show okW17 g w = true by unfold okW17; rw [h1, allN_iff.2 hall]; rfl]
    conv => whnf
    repeat (first | (refine go_D4 ?_; conv => whnf) | (refine lk_D4 ?_; conv => whnf))
    first | refine ⟨rfl, _, rfl, ?_⟩ | refine ⟨_, rfl, ?_⟩
    rfl
  have hk17 : k < 17 := by simp at h5; omega
  have hwk := hw.t k
  have bad : wOk g w k = false → okW17 g w = false := fun hb => by unfold okW17; rw [h1, allN_false hk17 hb]; rfl
  conv => whnf
  repeat (first | (refine go_D4 ?_; conv => whnf) | (refine lk_D4 ?_; conv => whnf))
  rw [ed]
  first | refine ⟨_, _, rfl, sc_D4 (within32_sat _ _ _), ?_⟩ | refine .inl ⟨_, _, rfl, sc_D4 (within32_sat _ _ _), ?_⟩
  conv => whnf
  repeat (first | (refine go_D4 ?_; conv => whnf) | (refine lk_D4 ?_; conv => whnf))
  cases h6 : (decide (0 ≤ w k) && decide (w k ≤ g.dp))
  · rw [bad (by unfold wOk; rw [h6]; rfl)]
    conv => whnf
    repeat (first | (refine go_D4 ?_; conv => whnf) | (refine lk_D4 ?_; conv => whnf))
    first | refine ⟨rfl, _, rfl, ?_⟩ | refine ⟨_, rfl, ?_⟩
    rfl
  conv => whnf
  repeat (first | (refine go_D4 ?_; conv => whnf) | (refine lk_D4 ?_; conv => whnf))
  cases h8 : (w k != 0)
  · have hb : wOk g w k = true := by
      unfold wOk
      rw [h6, show (w k == 0) = true by simpa using h8]
      simp
    have hall' := below_succ (p := fun j => wOk g w j = true) hall hb
    conv => whnf
    repeat (first | (refine go_D4 ?_; conv => whnf) | (refine lk_D4 ?_; conv => whnf))
    refine ⟨k + 1, ?_, ?_, sim_of (rn := [((2, 0, 0), (2, 0, 0))]) rfl ?_ ?_⟩
    · (dsimp only; omega)
    · exact ⟨by omega, hall'⟩
    · exact hold_D4
    · ((repeat' (first | exact trivial | apply And.intro)) <;> ((first | refine ⟨_, _, rfl, rfl, ?_⟩ ); rfl))
  conv => whnf
  repeat (first | (refine go_D4 ?_; conv => whnf) | (refine lk_D4 ?_; conv => whnf))
  rw [en]
  cases h7 : decide ((k : Int) ≥ g.n)
  · have hb : wOk g w k = true := by
      unfold wOk
      rw [h6, show decide ((k : Int) < g.n) = true by simp at h7 ⊢; omega]
      rfl
    have hall' := below_succ (p := fun j => wOk g w j = true) hall hb
    conv => whnf
    repeat (first | (refine go_D4 ?_; conv => whnf) | (refine lk_D4 ?_; conv => whnf))
    refine ⟨k + 1, ?_, ?_, sim_of (rn := [((2, 0, 0), (2, 0, 0))]) rfl ?_ ?_⟩
    · (dsimp only; omega)
    · exact ⟨by omega, hall'⟩
    · exact hold_D4
    · ((repeat' (first | exact trivial | apply And.intro)) <;> ((first | refine ⟨_, _, rfl, rfl, ?_⟩ ); rfl))
  rw [bad (by
    unfold wOk
    rw [h6, show decide ((k : Int) < g.n) = false by simp at h7 ⊢; omega]
    simpa using h8)]
  conv => whnf
  repeat (first | (refine go_D4 ?_; conv => whnf) | (refine lk_D4 ?_; conv => whnf))
  first | refine ⟨rfl, _, rfl, ?_⟩ | refine ⟨_, rfl, ?_⟩
  rfl
theorem waterCode_sat (g : Gut) (hg : g.In) (w : Nat → Int) (hw : WatIn w) (b : Bool) : Sat Try.prog 81 [gutD false g, watD w, .v (.bool b)] (.v (.int .i64 (wetK g w b))) := by
  refine sat_of_wp hMix tOk Try.func81 rfl rfl Try.ntmps81 rfl rfl Try.results81 (by kernel_rfl) ?_
  conv => whnf
  repeat (first | (refine go_D4 ?_; conv => whnf) | (refine lk_D4 ?_; conv => whnf))
  first | refine ⟨_, _, rfl, sc_D4 (validWater_sat g hg w hw), ?_⟩ | refine .inl ⟨_, _, rfl, sc_D4 (validWater_sat g hg w hw), ?_⟩
  conv => whnf
  repeat (first | (refine go_D4 ?_; conv => whnf) | (refine lk_D4 ?_; conv => whnf))
  cases h1 : okW17 g w
  · rw [show wetK g w b = 1 by unfold wetK; rw [h1]; rfl]
    conv => whnf
    repeat (first | (refine go_D4 ?_; conv => whnf) | (refine lk_D4 ?_; conv => whnf))
    first | refine ⟨rfl, _, rfl, ?_⟩ | refine ⟨_, rfl, ?_⟩
    rfl
  cases b
  · rw [show wetK g w false = 2 by unfold wetK; rw [h1]; rfl]
    conv => whnf
    repeat (first | (refine go_D4 ?_; conv => whnf) | (refine lk_D4 ?_; conv => whnf))
    first | refine ⟨rfl, _, rfl, ?_⟩ | refine ⟨_, rfl, ?_⟩
    rfl
  rw [show wetK g w true = 0 by unfold wetK; rw [h1]; rfl]
  conv => whnf
  repeat (first | (refine go_D4 ?_; conv => whnf) | (refine lk_D4 ?_; conv => whnf))
  first | refine ⟨rfl, _, rfl, ?_⟩ | refine ⟨_, rfl, ?_⟩
  rfl
end Go.Proofs.Ytcnenmcagkbppaa
/- Plain words: what a minute does with the water in a gutter. -/
set_option linter.unusedVariables false
set_option linter.unusedSimpArgs false
namespace Go.V
def leafB (g : Gut) (c : Nat) : Bool := IntKind.u32.wrap (BitVec.ofInt IntKind.u32.bits (g.lv.fdiv (2 ^ (min (c : Int).toNat IntKind.u32.bits))) &&& BitVec.ofInt IntKind.u32.bits 1).toNat == 1
def hasB (g : Gut) (c : Nat) : Bool := (List.range g.ps.length).any fun i => (px g.ps i).1 == (c : Int)
def idxN (n : Nat) (p : Nat → Bool) : Int := match (List.range n).find? p with | some i => (i : Int) | none => -1
theorem idxN_some {p : Nat → Bool} {n i : Nat} (hi : i < n) (h : p i = true) (hall : ∀ j, j < i → p j = false) : idxN n p = i := by
  unfold idxN; rw [find_some hi h hall]
theorem idxN_none {p : Nat → Bool} {n : Nat} (hall : ∀ j, j < n → p j = false) : idxN n p = -1 := by
  unfold idxN; rw [find_none hall]
theorem anyN_none {p : Nat → Bool} {n : Nat} (hall : ∀ j, j < n → p j = false) : (List.range n).any p = false := by
  rw [List.any_eq_false]; intro i hi; rw [hall i (by simpa using hi)]; simp
theorem anyN_some {p : Nat → Bool} {n i : Nat} (hi : i < n) (h : p i = true) : (List.range n).any p = true := by
  rw [List.any_eq_true]; exact ⟨i, by simpa using hi, h⟩
theorem idxN_any (n : Nat) (p : Nat → Bool) : decide (idxN n p ≥ 0) = (List.range n).any p := by
  cases h : (List.range n).any p
  · rw [idxN_none fun j hj => by
      rw [List.any_eq_false] at h
      have := h j (by simpa using hj)
      simpa using this]
    rfl
  · unfold idxN
    cases hf : (List.range n).find? p with
    | some i => simp
    | none =>
      rw [List.find?_eq_none] at hf
      rw [List.any_eq_true] at h
      obtain ⟨i, hi, hp⟩ := h
      exact absurd hp (hf i hi)
def lowL (g : Gut) (c : Nat) : Bool := decide (0 < c) && decide (g.h (c - 1) < g.h c)
def toP (g : Gut) (c : Nat) : Int :=
  if (leafB g c || hasB g c) = true then -1
  else if lowL g c = true then (if (c : Int) + 1 < g.n ∧ g.h (c + 1) < g.h (c - 1) then (c : Int) + 1 else (c : Int) - 1)
  else (if (c : Int) + 1 < g.n ∧ g.h (c + 1) < g.h c then (c : Int) + 1 else -1)
theorem toP_range {g : Gut} {c : Nat} (h : (c : Int) < g.n) : -1 ≤ toP g c ∧ toP g c < g.n := by
  unfold toP lowL
  split
  · omega
  · split
    · rename_i hl
      simp only [Bool.and_eq_true, decide_eq_true_eq] at hl
      split <;> omega
    · split <;> omega
def tgt (g : Gut) (c : Nat) : Nat := if toP g c < 0 then c else (toP g c).toNat
theorem tgt_lt {g : Gut} {c : Nat} (h : (c : Int) < g.n) : (tgt g c : Int) < g.n := by
  have := toP_range h
  unfold tgt; split <;> omega
def minI (a b : Int) : Int := if b < a then b else a
theorem minI_le (a b : Int) : minI a b ≤ a ∧ minI a b ≤ b := by unfold minI; split <;> omega
theorem minI_ge {a b : Int} (ha : 0 ≤ a) (hb : 0 ≤ b) : 0 ≤ minI a b := by unfold minI; split <;> omega
theorem minI_lt (a b : Int) : (if a < b then a else b) = minI a b := by unfold minI; split <;> split <;> omega
/-- Rain, then pipes, then what flows. -/
def wR (w : Nat → Int) (xs : List Int) (k : Nat) : Nat → Int := fun j => if j < k then w j + ix xs j else w j
def wP (g : Gut) (w : Nat → Int) : Nat → Nat → Int
  | 0 => w
  | i + 1 => putW (wP g w i) (px g.ps i).1.toNat (wP g w i (px g.ps i).1.toNat - minI (wP g w i (px g.ps i).1.toNat) (px g.ps i).2)
def tP (g : Gut) (w : Nat → Int) : Nat → Int
  | 0 => 0
  | i + 1 => tP g w i + minI (wP g w i (px g.ps i).1.toNat) (px g.ps i).2
def oK (g : Gut) (w : Nat → Int) : Nat → Nat → Int
  | 0 => fun _ => 0
  | k + 1 => putW (oK g w k) (tgt g k) (oK g w k (tgt g k) + w k)
def over1 (dp x : Int) : Int := if x - dp > 0 then x - dp else 0
def cut1 (dp x : Int) : Int := if x - dp > 0 then dp else x
def ovK (dp : Int) (o : Nat → Int) : Nat → Int
  | 0 => 0
  | k + 1 => ovK dp o k + over1 dp (o k)
def minF (g : Gut) (w : Nat → Int) (xs : List Int) : Nat → Int := wP g (wR w xs g.n.toNat) g.ps.length
def minW (g : Gut) (w : Nat → Int) (xs : List Int) : Nat → Int := fun j => cut1 g.dp (oK g (minF g w xs) g.n.toNat j)
def minT (g : Gut) (w : Nat → Int) (xs : List Int) : Int := tP g (wR w xs g.n.toNat) g.ps.length
def minO (g : Gut) (w : Nat → Int) (xs : List Int) : Int := ovK g.dp (oK g (minF g w xs) g.n.toNat) 17
structure W17 (b : Int) (w : Nat → Int) : Prop where
  t : ∀ k, k < 17 → 0 ≤ w k ∧ w k ≤ b
theorem wR_in {w : Nat → Int} (hw : W17 1000 w) {xs : List Int} (hx : ∀ i, i < xs.length → 0 ≤ ix xs i ∧ ix xs i ≤ 1000) {k : Nat} (hk : k ≤ xs.length) : W17 2000 (wR w xs k) := ⟨fun j hj => by
  have := hw.t j hj
  unfold wR
  split
  · have := hx j (by omega); omega
  · omega⟩
theorem wR_put {w : Nat → Int} {xs : List Int} {k : Nat} : putW (wR w xs k) k (w k + ix xs k) = wR w xs (k + 1) := by
  funext j
  unfold putW wR
  by_cases h : j = k
  · subst h; simp
  · rw [if_neg h]
    by_cases h2 : j < k
    · rw [if_pos h2, if_pos (by omega)]
    · rw [if_neg h2, if_neg (by omega)]
theorem wR_at {w : Nat → Int} {xs : List Int} {k : Nat} : wR w xs k k = w k := by simp [wR]
theorem wR_zero {w : Nat → Int} {xs : List Int} : wR w xs 0 = w := by funext j; simp [wR]
theorem wP_in {g : Gut} (hg : g.Ok) {w : Nat → Int} (hw : W17 2000 w) : ∀ i, i ≤ g.ps.length → W17 2000 (wP g w i)
  | 0, _ => hw
  | i + 1, hi => ⟨fun j hj => by
    have ih := wP_in hg hw i (by omega)
    have hp := hg.ps i (by omega)
    have hn := hg.n
    have h1 := ih.t (px g.ps i).1.toNat (by omega)
    have h2 := minI_le (wP g w i (px g.ps i).1.toNat) (px g.ps i).2
    have h3 := minI_ge h1.1 hp.2.1
    simp only [wP]
    unfold putW
    split
    · omega
    · exact ih.t j hj⟩
theorem tP_in {g : Gut} (hg : g.Ok) {w : Nat → Int} (hw : W17 2000 w) : ∀ i, i ≤ g.ps.length → 0 ≤ tP g w i ∧ tP g w i ≤ 2000 * i
  | 0, _ => by simp [tP]
  | i + 1, hi => by
    have ih := tP_in hg hw i (by omega)
    have hp := hg.ps i (by omega)
    have hn := hg.n
    have h1 := (wP_in hg hw i (by omega)).t (px g.ps i).1.toNat (by omega)
    have h2 := minI_le (wP g w i (px g.ps i).1.toNat) (px g.ps i).2
    have h3 := minI_ge h1.1 hp.2.1
    simp only [tP]
    push_cast
    omega
theorem oK_in {g : Gut} (hg : g.Ok) {w : Nat → Int} (hw : W17 2000 w) : ∀ k : Nat, (k : Int) ≤ g.n → W17 (2000 * k) (oK g w k)
  | 0, _ => ⟨fun j hj => by simp [oK]⟩
  | k + 1, hk => ⟨fun j hj => by
    have ih := oK_in hg hw k (by omega)
    have hn := hg.n
    have hwk := hw.t k (by omega)
    have ht := tgt_lt (g := g) (c := k) (by omega)
    have h1 := ih.t (tgt g k) (by omega)
    have h2 := ih.t j hj
    simp only [oK]
    unfold putW
    split
    · push_cast; omega
    · push_cast; omega⟩
theorem oK_zero {g : Gut} {w : Nat → Int} : ∀ k : Nat, (k : Int) ≤ g.n → ∀ j : Nat, g.n ≤ (j : Int) → oK g w k j = 0
  | 0, _, j, hj => rfl
  | k + 1, hk, j, hj => by
    have ht := tgt_lt (g := g) (c := k) (by omega)
    simp only [oK]
    unfold putW
    rw [if_neg (by omega)]
    exact oK_zero k (by omega) j hj
theorem cut1_in {dp x : Int} (hd : 0 ≤ dp) (hx : 0 ≤ x) : 0 ≤ cut1 dp x ∧ cut1 dp x ≤ dp := by unfold cut1; split <;> omega
theorem over1_in {dp x : Int} (hd : 0 ≤ dp) (hx : 0 ≤ x) : 0 ≤ over1 dp x ∧ over1 dp x ≤ x := by unfold over1; split <;> omega
theorem ovK_in {dp b : Int} (hd : 0 ≤ dp) (hb : 0 ≤ b) {o : Nat → Int} (ho : W17 b o) : ∀ k, k ≤ 17 → 0 ≤ ovK dp o k ∧ ovK dp o k ≤ b * k
  | 0, _ => by simp [ovK]
  | k + 1, hk => by
    have ih := ovK_in hd hb ho k (by omega)
    have h1 := ho.t k (by omega)
    have h2 := over1_in (dp := dp) hd h1.1
    simp only [ovK]
    have : b * ((k + 1 : Nat) : Int) = b * k + b := by rw [Int.natCast_add, Int.mul_add]; simp
    omega
theorem ovK_same {dp : Int} (hd : 0 ≤ dp) {o : Nat → Int} {n : Nat} (hz : ∀ j, n ≤ j → o j = 0) : ∀ k, n ≤ k → ovK dp o k = ovK dp o n
  | 0, h => by rw [show n = 0 by omega]
  | k + 1, h => by
    by_cases hk : n = k + 1
    · rw [hk]
    · simp only [ovK]
      rw [ovK_same hd hz k (by omega), hz k (by omega), show over1 dp 0 = 0 by unfold over1; split <;> omega]
      omega
/-- Rain for each cell. -/
def rainB (g : Gut) (xs : List Int) : Bool := ((xs.length : Int) == g.n) && (List.range xs.length).all fun i => deepB (ix xs i)
structure RainOk (g : Gut) (xs : List Int) : Prop where
  len : (xs.length : Int) = g.n
  t : ∀ i, i < xs.length → 0 ≤ ix xs i ∧ ix xs i ≤ 1000
theorem rainB_ok {g : Gut} {xs : List Int} (h : rainB g xs = true) : RainOk g xs := by
  simp only [rainB, Bool.and_eq_true, beq_iff_eq] at h
  refine ⟨h.1, fun i hi => ?_⟩
  have := allN_iff.1 h.2 i hi
  simpa [deepB] using this
theorem minF_in {g : Gut} (hg : g.Ok) {w : Nat → Int} (hw : W17 1000 w) {xs : List Int} (hx : RainOk g xs) : W17 2000 (minF g w xs) := by
  have := hx.len
  exact wP_in hg (wR_in hw hx.t (by omega)) _ (Nat.le_refl _)
theorem minW_in {g : Gut} (hg : g.Ok) {w : Nat → Int} (hw : W17 1000 w) {xs : List Int} (hx : RainOk g xs) : W17 1000 (minW g w xs) := ⟨fun k hk => by
  have hn := hg.n
  have hd := hg.dp
  have h1 := (oK_in hg (minF_in hg hw hx) g.n.toNat (by omega)).t k hk
  have := cut1_in hd.1 h1.1
  unfold minW
  omega⟩
theorem minT_in {g : Gut} (hg : g.Ok) {w : Nat → Int} (hw : W17 1000 w) {xs : List Int} (hx : RainOk g xs) : 0 ≤ minT g w xs ∧ minT g w xs ≤ 8000 := by
  have h0 := hx.len
  have h1 := hg.len
  have := tP_in hg (wR_in hw hx.t (k := g.n.toNat) (by omega)) _ (Nat.le_refl _)
  unfold minT
  omega
theorem minO_in {g : Gut} (hg : g.Ok) {w : Nat → Int} (hw : W17 1000 w) {xs : List Int} (hx : RainOk g xs) : 0 ≤ minO g w xs ∧ minO g w xs ≤ 578000 := by
  have hn := hg.n
  have h1 := oK_in hg (minF_in hg hw hx) g.n.toNat (by omega)
  have h2 : W17 34000 (oK g (minF g w xs) g.n.toNat) := ⟨fun k hk => by have := h1.t k hk; omega⟩
  have := ovK_in hg.dp.1 (by omega) h2 17 (by omega)
  unfold minO
  omega
/-- Behind several minutes. -/
def wM (g : Gut) (w : Nat → Int) (xs : List Int) : Nat → Nat → Int
  | 0 => w
  | m + 1 => minW g (wM g w xs m) xs
def tM (g : Gut) (w : Nat → Int) (xs : List Int) : Nat → Int
  | 0 => 0
  | m + 1 => tM g w xs m + minT g (wM g w xs m) xs
def oM (g : Gut) (w : Nat → Int) (xs : List Int) : Nat → Int
  | 0 => 0
  | m + 1 => oM g w xs m + minO g (wM g w xs m) xs
theorem wM_in {g : Gut} (hg : g.Ok) {w : Nat → Int} (hw : W17 1000 w) {xs : List Int} (hx : RainOk g xs) : ∀ m, W17 1000 (wM g w xs m)
  | 0 => hw
  | m + 1 => minW_in hg (wM_in hg hw hx m) hx
theorem tM_in {g : Gut} (hg : g.Ok) {w : Nat → Int} (hw : W17 1000 w) {xs : List Int} (hx : RainOk g xs) : ∀ m : Nat, 0 ≤ tM g w xs m ∧ tM g w xs m ≤ 8000 * m
  | 0 => by simp [tM]
  | m + 1 => by
    have ih := tM_in hg hw hx m
    have := minT_in hg (wM_in hg hw hx m) hx
    simp only [tM]
    push_cast
    omega
theorem oM_in {g : Gut} (hg : g.Ok) {w : Nat → Int} (hw : W17 1000 w) {xs : List Int} (hx : RainOk g xs) : ∀ m : Nat, 0 ≤ oM g w xs m ∧ oM g w xs m ≤ 578000 * m
  | 0 => by simp [oM]
  | m + 1 => by
    have ih := oM_in hg hw hx m
    have := minO_in hg (wM_in hg hw hx m) hx
    simp only [oM]
    push_cast
    omega
def upL (n : Nat) : List Int := (List.range n).map fun i => Int.ofNat i
@[simp] theorem upL_len (n : Nat) : (upL n).length = n := by simp [upL]
theorem upL_next (n : Nat) : upL (n + 1) = upL n ++ [(n : Int)] := by simp [upL, List.range_succ]
theorem upL_ix {n i : Nat} (h : i < n) : ix (upL n) i = (i : Int) := by
  unfold ix upL
  rw [List.getD_eq_getElem?_getD]
  simp [h]
theorem upA {n i : Nat} (h : i < n) : nth (intsC (upL n)) (0 + (i : Int).toNat * 1) = some (.int .i64 (i : Int)) := by
  rw [intA (by simpa using h), upL_ix h]
end Go.V
