import Derived.Test.YtecjkbgepbefcaaW6
import Derived.Test.YtecjkbgepbefcaaVT
set_option linter.unusedVariables false
set_option linter.unusedSimpArgs false
/- Plain words: tables of cells, roofs, places. -/
set_option linter.unusedVariables false
set_option linter.unusedSimpArgs false
namespace Go.V

/-- n cells by a rule. -/
@[irreducible] def tab (n : Nat) (f : Nat → Value) : List Value := (List.range n).map f
theorem tab_def (n : Nat) (f : Nat → Value) : tab n f = (List.range n).map f := by unfold tab; rfl
@[simp] theorem tab_length (n : Nat) (f : Nat → Value) : (tab n f).length = n := by rw [tab_def]; simp
theorem nth_tab {n : Nat} {f : Nat → Value} {i : Nat} (h : i < n) : nth (tab n f) i = some (f i) := by
  rw [nth_eq, tab_def]; simp [h]
theorem tab_get {n : Nat} {f : Nat → Value} {i : Nat} (h : i < n) : (tab n f)[i]? = some (f i) := by
  rw [tab_def]; simp [h]
theorem tab_none {n : Nat} {f : Nat → Value} {i : Nat} (h : n ≤ i) : (tab n f)[i]? = none := by
  rw [List.getElem?_eq_none_iff, tab_length]; exact h
theorem tab_congr {n : Nat} {f g : Nat → Value} (h : ∀ i, i < n → f i = g i) : tab n f = tab n g := by
  rw [tab_def, tab_def]
  apply List.map_congr_left
  intro i hi
  exact h i (by simpa using hi)
theorem tab_sub {n : Nat} {f : Nat → Value} {o m : Nat} (h : o + m ≤ n) : ((tab n f).drop o).take m = tab m fun i => f (o + i) := by
  apply List.ext_getElem?
  intro i
  rw [List.getElem?_take]
  by_cases hi : i < m
  · rw [if_pos hi, List.getElem?_drop, tab_get (by omega), tab_get hi]
  · rw [if_neg hi, tab_none (by omega)]
theorem tab_set {n : Nat} {f : Nat → Value} {i : Nat} {x : Value} : (tab n f).set i x = tab n fun j => if j = i then x else f j := by
  apply List.ext_getElem?
  intro j
  rw [List.getElem?_set]
  by_cases hj : j < n
  · rw [tab_get hj, tab_get hj]
    by_cases h : i = j
    · subst h; simp [hj]
    · simp [h, Ne.symm h]
  · rw [tab_none (by omega), tab_none (by omega)]
    simp only [tab_length]
    split
    · rw [if_neg (by omega)]
    · rfl
theorem w64 {n : Int} (h1 : -9223372036854775808 ≤ n) (h2 : n ≤ 9223372036854775807) : IntKind.i64.wrap n = n := by
  simp only [IntKind.wrap, IntKind.bits, IntKind.signed, Bool.true_and]
  split <;> rename_i h <;> simp at h <;> omega
theorem w8 {n : Int} (h1 : -128 ≤ n) (h2 : n ≤ 127) : IntKind.i8.wrap n = n := by
  simp only [IntKind.wrap, IntKind.bits, IntKind.signed, Bool.true_and]
  split <;> rename_i h <;> simp at h <;> omega
theorem wu8 {n : Int} (h1 : 0 ≤ n) (h2 : n ≤ 255) : IntKind.u8.wrap n = n := by
  simp [IntKind.wrap, IntKind.bits, IntKind.signed]
  omega
theorem wu64 {n : Int} (h1 : 0 ≤ n) (h2 : n ≤ 18446744073709551615) : IntKind.u64.wrap n = n := by
  simp [IntKind.wrap, IntKind.bits, IntKind.signed]
  omega

abbrev i64 (n : Int) : D := .v (.int .i64 n)

structure Roof where
  w : Int
  h : Int
  s : Int
  t : Nat → Nat → Int

structure Roof.In (r : Roof) : Prop where
  w : -128 ≤ r.w ∧ r.w ≤ 127
  h : -128 ≤ r.h ∧ r.h ≤ 127
  s : 0 ≤ r.s ∧ r.s ≤ 255
  t : ∀ c k, 0 ≤ r.t c k ∧ r.t c k ≤ 255

def grid (t : Nat → Nat → Int) : List Value := tab 64 fun i => .int .u8 (t (i / 8) (i % 8))
def roofC (r : Roof) : List Value := .int .i8 r.w :: .int .i8 r.h :: .int .u8 r.s :: grid r.t
def roofD (r : Roof) : D := .v (.agg ⟨roofC r⟩)
def placeD (c k : Int) : D := .v (.agg ⟨[.int .i8 c, .int .i8 k]⟩)

theorem grid_get {t : Nat → Nat → Int} {c k : Nat} (hc : c < 8) (hk : k < 8) : nth (grid t) (c * 8 + k) = some (.int .u8 (t c k)) := by
  unfold grid
  rw [nth_tab (by omega)]
  have h1 : (c * 8 + k) / 8 = c := by omega
  have h2 : (c * 8 + k) % 8 = k := by omega
  rw [h1, h2]
theorem roof_get {r : Roof} {i c k : Nat} (hi : i = 3 + c * 8 + k) (hc : c < 8) (hk : k < 8) : nth (roofC r) i = some (.int .u8 (r.t c k)) := by
  subst hi
  rw [show 3 + c * 8 + k = (c * 8 + k) + 3 by omega]
  exact grid_get hc hk

end Go.V
/- Contracts: bounds, kinds, places. -/
set_option linter.unusedVariables false
set_option linter.unusedSimpArgs false
namespace Go.Proofs.Ytecjkbgepbefcaa
open Go.V

theorem l00In_sat (n lo hi : Int) : Sat Try.prog 106 [.v (.int .i64 n), .v (.int .i64 lo), .v (.int .i64 hi)] (.v (.bool (decide (n ≥ lo) && decide (n ≤ hi)))) := by
  refine sat_of_wp hMix tOk Try.func106 rfl rfl Try.ntmps106 rfl rfl Try.results106 (by kernel_rfl) ?_
  conv => whnf
  cases h1 : decide (n ≥ lo)
  · exact ⟨rfl, _, rfl, rfl⟩
  · conv => whnf
    cases h2 : decide (n ≤ hi) <;> exact ⟨rfl, _, rfl, rfl⟩

theorem within8_sat (n lo hi : Int) : Sat Try.prog 110 [.v (.int .i8 n), .v (.int .i8 lo), .v (.int .i8 hi)] (.v (.bool (decide (lo ≤ n) && decide (n ≤ hi)))) := by
  refine sat_of_wp hMix tOk Try.func110 rfl rfl Try.ntmps110 rfl rfl Try.results110 (by kernel_rfl) ?_
  conv => whnf
  cases h1 : decide (lo ≤ n)
  · exact ⟨rfl, _, rfl, rfl⟩
  · conv => whnf
    cases h2 : decide (n ≤ hi) <;> exact ⟨rfl, _, rfl, rfl⟩

theorem l01Kind_sat (k : Int) : Sat Try.prog 83 [.v (.int .i64 k)] (.v (.bool (decide (k ≥ 0) && decide (k ≤ 3)))) := by
  refine sat_of_wp hMix tOk Try.func83 rfl rfl Try.ntmps83 rfl rfl Try.results83 (by kernel_rfl) ?_
  conv => whnf
  refine ⟨_, _, rfl, l00In_sat _ _ _, ?_⟩
  exact ⟨rfl, _, rfl, rfl⟩

theorem l01Is_sat (r : Roof) (hr : r.In) (c k : Int) (hc : -128 ≤ c ∧ c ≤ 127) (hk : -128 ≤ k ∧ k ≤ 127) :
    Sat Try.prog 86 [.ref false (roofD r) 0, placeD c k] (.v (.bool ((decide (c ≥ 0) && decide (c ≤ r.h - 1)) && (decide (k ≥ 0) && decide (k ≤ r.w - 1))))) := by
  have e1 : IntKind.i64.wrap c = c := w64 (by omega) (by omega)
  have e2 : IntKind.i64.wrap k = k := w64 (by omega) (by omega)
  have e3 : IntKind.i64.wrap r.h = r.h := by have := hr.h; exact w64 (by omega) (by omega)
  have e4 : IntKind.i64.wrap r.w = r.w := by have := hr.w; exact w64 (by omega) (by omega)
  have e5 : IntKind.i64.wrap (r.h - 1) = r.h - 1 := by have := hr.h; exact w64 (by omega) (by omega)
  have e6 : IntKind.i64.wrap (r.w - 1) = r.w - 1 := by have := hr.w; exact w64 (by omega) (by omega)
  refine sat_of_wp hMix tOk Try.func86 rfl rfl Try.ntmps86 rfl rfl Try.results86 (by kernel_rfl) ?_
  conv => whnf
  rw [e1, e3, e5]
  refine ⟨_, _, rfl, l00In_sat _ _ _, ?_⟩
  conv => whnf
  cases h1 : (decide (c ≥ 0) && decide (c ≤ r.h - 1))
  · exact ⟨rfl, _, rfl, rfl⟩
  · conv => whnf
    rw [e2, e4, e6]
    refine ⟨_, _, rfl, l00In_sat _ _ _, ?_⟩
    conv => whnf
    cases h2 : (decide (k ≥ 0) && decide (k ≤ r.w - 1)) <;> exact ⟨rfl, _, rfl, rfl⟩
end Go.Proofs.Ytecjkbgepbefcaa
/- Contracts: valid roofs. -/
set_option linter.unusedVariables false
set_option linter.unusedSimpArgs false
namespace Go.V
def cellOk (r : Roof) (c k : Nat) : Bool := decide (r.t c k ≤ 3) && (decide (r.t c k = 0) || (decide ((c : Int) < r.h) && decide ((k : Int) < r.w)))
def okR (r : Roof) : Bool := (decide (r.w ≥ 1) && decide (r.w ≤ 8)) && (decide (r.h ≥ 1) && decide (r.h ≤ 8)) && decide (r.s ≤ 1) && (List.range 8).all fun c => (List.range 8).all fun k => cellOk r c k
end Go.V
namespace Go.Proofs.Ytecjkbgepbefcaa
open Go.V

theorem l01Ok_sat (r : Roof) (hr : r.In) : Sat Try.prog 107 [.ref false (roofD r) 0] (.v (.bool (okR r))) := by
  have e3 : IntKind.i64.wrap r.h = r.h := by have := hr.h; exact w64 (by omega) (by omega)
  have e4 : IntKind.i64.wrap r.w = r.w := by have := hr.w; exact w64 (by omega) (by omega)
  refine sat_of_wp hMix tOk Try.func107 rfl rfl Try.ntmps107 rfl rfl Try.results107 (by kernel_rfl) ?_
  conv => whnf
  rw [e4]
  refine ⟨_, _, rfl, l00In_sat _ _ _, ?_⟩
  conv => whnf
  cases h1 : (decide (r.w ≥ 1) && decide (r.w ≤ 8))
  · exact ⟨rfl, _, rfl, by simp only [okR, h1, Bool.false_and]; rfl⟩
  conv => whnf
  rw [e3]
  refine ⟨_, _, rfl, l00In_sat _ _ _, ?_⟩
  conv => whnf
  cases h2 : (decide (r.h ≥ 1) && decide (r.h ≤ 8))
  · exact ⟨rfl, _, rfl, by simp only [okR, h1, h2, Bool.false_and, Bool.and_false]; rfl⟩
  conv => whnf
  cases h3 : (decide (r.s > 1))
  case true => exact ⟨rfl, _, rfl, by
    have : decide (r.s ≤ 1) = false := by simp at h3 ⊢; omega
    simp only [okR, h1, h2, this, Bool.false_and, Bool.and_false]; rfl⟩
  have h3' : decide (r.s ≤ 1) = true := by simp at h3 ⊢; omega
  conv => whnf
  refine loop_rule (α := Nat) (fun c => [(0, .ref false (roofD r) 0), (3, .v (.int .i8 c))]) (fun _ => []) (fun c => c ≤ 8 ∧ ∀ c', c' < c → ∀ k, k < 8 → cellOk r c' k = true) (fun c => 8 - c) 0 ⟨by omega, by omega⟩ (sim_of (rn := []) rfl ⟨rfl, rfl, trivial⟩ trivial) ?_
  rintro c ⟨hc, hall⟩
  conv => whnf
  cases h4 : decide ((c : Int) < 8)
  · conv => whnf
    refine ⟨rfl, _, rfl, ?_⟩
    have hc8 : c = 8 := by simp at h4; omega
    subst hc8
    have : (List.range 8).all (fun c => (List.range 8).all fun k => cellOk r c k) = true := by
      simp only [List.all_eq_true, List.mem_range]
      exact hall
    simp only [okR, h1, h2, h3', this, Bool.and_self]; rfl
  conv => whnf
  have hc8 : c < 8 := by simp at h4; omega
  refine loop_rule (α := Nat) (fun k => [(0, .ref false (roofD r) 0), (3, .v (.int .i8 c)), (4, .v (.int .i8 k))]) (fun _ => []) (fun k => k ≤ 8 ∧ ∀ k', k' < k → cellOk r c k' = true) (fun k => 8 - k) 0 ⟨by omega, by omega⟩ (sim_of (rn := []) rfl ⟨rfl, rfl, rfl, trivial⟩ trivial) ?_
  rintro k ⟨hk, hrow⟩
  conv => whnf
  cases h5 : decide ((k : Int) < 8)
  · conv => whnf
    refine ⟨c + 1, by dsimp only; omega, ⟨by omega, ?_⟩, sim_of (rn := []) rfl ⟨rfl, ?_, trivial⟩ trivial⟩
    · intro c' hc' k' hk'
      by_cases h : c' = c
      · subst h; exact hrow k' (by simp at h5; omega)
      · exact hall c' (by omega) k' hk'
    · show some _ = some _
      congr 1
      exact vint (by rw [w8 (by omega) (by omega)]; omega)
  conv => whnf
  have hk8 : k < 8 := by simp at h5; omega
  refine ⟨⟨by omega, by omega⟩, ?_⟩
  conv => whnf
  refine ⟨⟨by omega, by omega⟩, ?_⟩
  conv => whnf
  have ht := hr.t c k
  have e5 : IntKind.i64.wrap (r.t c k) = r.t c k := w64 (by omega) (by omega)
  have g1 : nth (roofC r) (0 + 3 + (c : Int).toNat * 8 + (k : Int).toNat * 1) = some (.int .u8 (r.t c k)) := roof_get (by omega) hc8 hk8
  refine optK_of g1 ?_
  conv => whnf
  rw [e5]
  refine ⟨_, _, rfl, l01Kind_sat _, ?_⟩
  conv => whnf
  have hno : ∀ b, cellOk r c k = b → (b = false → okR r = false) ∧ (b = true → ∀ k', k' < k + 1 → cellOk r c k' = true) := by
    rintro b rfl
    refine ⟨fun h => ?_, fun h k' hk' => ?_⟩
    · have : (List.range 8).all (fun c => (List.range 8).all fun k => cellOk r c k) = false := by
        rw [List.all_eq_false]
        refine ⟨c, by simpa using hc8, ?_⟩
        rw [Bool.not_eq_true, List.all_eq_false]
        exact ⟨k, by simpa using hk8, by simp [h]⟩
      simp only [okR, this, Bool.and_false]
    · by_cases hkk : k' = k
      · subst hkk; exact h
      · exact hrow k' (by omega)
  have hk3 : decide (r.t c k ≥ 0) = true := by simp; omega
  cases h6 : (decide (r.t c k ≥ 0) && decide (r.t c k ≤ 3))
  · have hcell : cellOk r c k = false := by
      rw [hk3, Bool.true_and] at h6
      simp only [cellOk, h6, Bool.false_and]
    conv => whnf
    refine ⟨rfl, _, rfl, ?_⟩
    rw [(hno _ hcell).1 rfl]; rfl
  conv => whnf
  refine ⟨_, _, rfl, l01Is_sat r hr c k ⟨by omega, by omega⟩ ⟨by omega, by omega⟩, ?_⟩
  conv => whnf
  have hk3' : decide (r.t c k ≤ 3) = true := by rw [hk3, Bool.true_and] at h6; exact h6
  have hin : (decide ((c : Int) ≥ 0) && decide ((c : Int) ≤ r.h - 1) && (decide ((k : Int) ≥ 0) && decide ((k : Int) ≤ r.w - 1))) = (decide ((c : Int) < r.h) && decide ((k : Int) < r.w)) := by
    rw [Bool.eq_iff_iff]; simp; omega
  rw [hin]
  have hkk : some (D.v (Value.int .i8 ((k + 1 : Nat) : Int))) = some (D.v (.int .i8 (IntKind.i8.wrap (k + 1)))) := by
    congr 1; exact vint (by rw [w8 (by omega) (by omega)]; omega)
  cases h7 : (decide ((c : Int) < r.h) && decide ((k : Int) < r.w))
  · conv => whnf
    have g2 : nth (roofC r) (0 + 3 + (c : Int).toNat * 8 + (k : Int).toNat * 1) = some (.int .u8 (r.t c k)) := roof_get (by omega) hc8 hk8
    refine ⟨⟨by omega, by omega⟩, ?_⟩
    conv => whnf
    refine ⟨⟨by omega, by omega⟩, ?_⟩
    conv => whnf
    refine optK_of g2 ?_
    conv => whnf
    cases h8 : (r.t c k != 0)
    · conv => whnf
      have hcell : cellOk r c k = true := by
        have : decide (r.t c k = 0) = true := by simpa using h8
        simp only [cellOk, hk3', this, Bool.true_or, Bool.and_self]
      exact ⟨k + 1, by dsimp only; omega, ⟨by omega, (hno _ hcell).2 rfl⟩, sim_of (rn := []) rfl ⟨rfl, rfl, hkk, trivial⟩ trivial⟩
    · conv => whnf
      have hcell : cellOk r c k = false := by
        have : decide (r.t c k = 0) = false := by simpa using h8
        simp only [cellOk, h7, this, Bool.or_self, Bool.and_false]
      refine ⟨rfl, _, rfl, ?_⟩
      rw [(hno _ hcell).1 rfl]; rfl
  · conv => whnf
    have hcell : cellOk r c k = true := by
      simp only [cellOk, h7, hk3', Bool.or_true, Bool.and_self]
    exact ⟨k + 1, by dsimp only; omega, ⟨by omega, (hno _ hcell).2 rfl⟩, sim_of (rn := []) rfl ⟨rfl, rfl, hkk, trivial⟩ trivial⟩
end Go.Proofs.Ytecjkbgepbefcaa
/- Contracts: the laws' own copies of rows, tables, roofs. -/
set_option linter.unusedVariables false
set_option linter.unusedSimpArgs false
namespace Go.V
def row8 (f : Nat → Int) : List Value := tab 8 fun k => .int .u8 (f k)
def row8D (f : Nat → Int) : D := .v (.agg ⟨row8 f⟩)
def gridD (t : Nat → Nat → Int) : D := .v (.agg ⟨grid t⟩)
theorem row8_get {f : Nat → Int} {i k : Nat} (hi : i = k) (hk : k < 8) : nth (row8 f) i = some (.int .u8 (f k)) := by
  subst hi
  exact nth_tab hk
@[simp] theorem row8_len (f : Nat → Int) : (row8 f).length = 8 := by unfold row8; simp
@[simp] theorem grid_len (t : Nat → Nat → Int) : (grid t).length = 64 := by unfold grid; simp
structure AgesIn (a : Nat → Nat → Int) : Prop where
  t : ∀ c k, 0 ≤ a c k ∧ a c k ≤ 255
/-- The cells of a table as one row. -/
def flat (t : Nat → Nat → Int) (i : Nat) : Int := t (i / 8) (i % 8)
theorem grid_row {t : Nat → Nat → Int} {c o : Nat} (ho : o = c * 8) (hc : c < 8) : ((grid t).drop o).take 8 = row8 (t c) := by
  subst ho
  unfold grid
  rw [tab_sub (by omega)]
  apply tab_congr
  intro i hi
  rw [show (c * 8 + i) / 8 = c by omega, show (c * 8 + i) % 8 = i by omega]
theorem roof_grid (r : Roof) : ((roofC r).drop (0 + 3)).take 64 = grid r.t := by
  show (grid r.t).take 64 = grid r.t
  rw [List.take_of_length_le (by simp)]
theorem splice_all {α : Type} {xs ys : List α} (h : xs.length = ys.length) : splice xs 0 ys = ys := by
  unfold splice; simp [← h]
theorem take_drop0 {α : Type} {xs : List α} {n : Nat} (h : xs.length = n) : (xs.drop 0).take n = xs := by
  subst h; simp
/-- What a function of the laws hands back: the block that was made, copied to the result's. -/
theorem copied {xs ys : List Value} {n : Nat} (hx : xs.length = n) (hy : ys.length = n) : ((splice xs 0 ((ys.drop 0).take n)).drop 0).take n = ys := by
  rw [take_drop0 hy, splice_all (by omega), take_drop0 hy]
end Go.V
namespace Go.Proofs.Ytecjkbgepbefcaa
open Go.V

end Go.Proofs.Ytecjkbgepbefcaa
/- Contracts: valid roofs and ages, both sides. -/
set_option linter.unusedVariables false
set_option linter.unusedSimpArgs false
namespace Go.V
def all8 (p : Nat → Nat → Bool) : Bool := (List.range 8).all fun c => (List.range 8).all fun k => p c k
theorem all8_true {p : Nat → Nat → Bool} (h : ∀ c, c < 8 → ∀ k, k < 8 → p c k = true) : all8 p = true := by
  simp only [all8, List.all_eq_true, List.mem_range]
  exact h
theorem all8_false {p : Nat → Nat → Bool} {c k : Nat} (hc : c < 8) (hk : k < 8) (h : p c k = false) : all8 p = false := by
  unfold all8
  rw [List.all_eq_false]
  refine ⟨c, by simpa using hc, ?_⟩
  rw [Bool.not_eq_true, List.all_eq_false]
  exact ⟨k, by simpa using hk, by simp [h]⟩
theorem all8_iff {p : Nat → Nat → Bool} : all8 p = true ↔ ∀ c, c < 8 → ∀ k, k < 8 → p c k = true := by
  simp only [all8, List.all_eq_true, List.mem_range]
theorem okR_def (r : Roof) : okR r = (((decide (r.w ≥ 1) && decide (r.w ≤ 8)) && (decide (r.h ≥ 1) && decide (r.h ≤ 8)) && decide (r.s ≤ 1)) && all8 (cellOk r)) := rfl
/-- Rows and cells that have been looked at. -/
def Upto (p : Nat → Nat → Bool) (c : Nat) : Prop := ∀ c', c' < c → ∀ k, k < 8 → p c' k = true
def UptoK (p : Nat → Bool) (k : Nat) : Prop := ∀ k', k' < k → p k' = true
theorem Upto.zero (p : Nat → Nat → Bool) : Upto p 0 := fun c' h => by omega
theorem UptoK.zero (p : Nat → Bool) : UptoK p 0 := fun c' h => by omega
theorem Upto.next {p : Nat → Nat → Bool} {c : Nat} (h : Upto p c) (hr : UptoK (p c) 8) : Upto p (c + 1) := by
  intro c' hc k hk
  by_cases e : c' = c
  · subst e; exact hr k hk
  · exact h c' (by omega) k hk
theorem UptoK.next {p : Nat → Bool} {k : Nat} (h : UptoK p k) (hr : p k = true) : UptoK p (k + 1) := by
  intro k' hk
  by_cases e : k' = k
  · subst e; exact hr
  · exact h k' (by omega)
theorem Upto.all {p : Nat → Nat → Bool} (h : Upto p 8) : all8 p = true := all8_true h
theorem succ64 {n : Nat} (h : n < 4294967296) : some (D.v (Value.int .i64 ((n + 1 : Nat) : Int))) = some (D.v (.int .i64 (IntKind.i64.wrap (n + 1)))) := by
  congr 1; exact vint (by rw [w64 (by omega) (by omega)]; omega)
theorem succ8 {n : Nat} (h : n < 127) : some (D.v (Value.int .i8 ((n + 1 : Nat) : Int))) = some (D.v (.int .i8 (IntKind.i8.wrap (n + 1)))) := by
  congr 1; exact vint (by rw [w8 (by omega) (by omega)]; omega)
/-- A row, rowStored in a new block and read again. -/
theorem rowStored {t : Nat → Nat → Int} {c o : Nat} {zs : List Value} (hz : zs.length = 8) (ho : o = c * 8) (hc : c < 8) : ((splice zs 0 (((grid t).drop o).take 8)).drop 0).take 8 = row8 (t c) := by
  rw [grid_row ho hc, splice_all (by rw [hz]; simp), take_drop0 (by simp)]
end Go.V
namespace Go.Proofs.Ytecjkbgepbefcaa
open Go.V

theorem has_sat (r : Roof) (hr : r.In) (c k : Int) (hw : 1 ≤ r.w) (hh : 1 ≤ r.h) :
    Sat Try.prog 68 [roofD r, placeD c k] (.v (.bool ((decide (0 ≤ c) && decide (c ≤ r.h - 1)) && (decide (0 ≤ k) && decide (k ≤ r.w - 1))))) := by
  have e5 : IntKind.i8.wrap (r.h - 1) = r.h - 1 := by have := hr.h; exact w8 (by omega) (by omega)
  have e6 : IntKind.i8.wrap (r.w - 1) = r.w - 1 := by have := hr.w; exact w8 (by omega) (by omega)
  refine sat_of_wp hMix tOk Try.func68 rfl rfl Try.ntmps68 rfl rfl Try.results68 (by kernel_rfl) ?_
  conv => whnf
  rw [e5]
  refine ⟨_, _, rfl, within8_sat _ _ _, ?_⟩
  conv => whnf
  cases h1 : (decide (0 ≤ c) && decide (c ≤ r.h - 1))
  · exact ⟨rfl, _, rfl, rfl⟩
  · conv => whnf
    rw [e6]
    refine ⟨_, _, rfl, within8_sat _ _ _, ?_⟩
    conv => whnf
    cases h2 : (decide (0 ≤ k) && decide (k ≤ r.w - 1)) <;> exact ⟨rfl, _, rfl, rfl⟩

theorem validRoof_sat (r : Roof) (hr : r.In) : Sat Try.prog 67 [roofD r] (.v (.bool (okR r))) := by
  have e3 : IntKind.i64.wrap r.h = r.h := by have := hr.h; exact w64 (by omega) (by omega)
  have e4 : IntKind.i64.wrap r.w = r.w := by have := hr.w; exact w64 (by omega) (by omega)
  refine sat_of_wp hMix tOk Try.func67 rfl rfl Try.ntmps67 rfl rfl Try.results67 (by kernel_rfl) ?_
  conv => whnf
  refine ⟨_, _, rfl, within8_sat _ _ _, ?_⟩
  conv => whnf
  cases h1 : (decide (1 ≤ r.w) && decide (r.w ≤ 8))
  · refine ⟨rfl, _, rfl, ?_⟩
    have : (decide (r.w ≥ 1) && decide (r.w ≤ 8)) = false := h1
    simp only [okR_def, this, Bool.false_and]; rfl
  have h1' : (decide (r.w ≥ 1) && decide (r.w ≤ 8)) = true := h1
  conv => whnf
  refine ⟨_, _, rfl, within8_sat _ _ _, ?_⟩
  conv => whnf
  cases h2 : (decide (1 ≤ r.h) && decide (r.h ≤ 8))
  · refine ⟨rfl, _, rfl, ?_⟩
    have : (decide (r.h ≥ 1) && decide (r.h ≤ 8)) = false := h2
    simp only [okR_def, this, Bool.false_and, Bool.and_false]; rfl
  have h2' : (decide (r.h ≥ 1) && decide (r.h ≤ 8)) = true := h2
  conv => whnf
  cases h3 : (decide (r.s > 1))
  case true =>
    refine ⟨rfl, _, rfl, ?_⟩
    have : decide (r.s ≤ 1) = false := by simp at h3 ⊢; omega
    simp only [okR_def, this, Bool.false_and, Bool.and_false]; rfl
  have h3' : decide (r.s ≤ 1) = true := by simp at h3 ⊢; omega
  have hok : okR r = all8 (cellOk r) := by simp only [okR_def, h1', h2', h3', Bool.true_and]
  rw [hok]
  conv => whnf
  refine ⟨by simp [roofC], ?_⟩
  conv => whnf
  refine loop_rule (α := Nat) (fun i => [(1, .ptr (1, 0, 0) 0), (23, gridD r.t), (24, .v (.int .i64 i))]) (fun i => [((1, 0, 0), roofD r)]) (fun i => i ≤ 8 ∧ Upto (cellOk r) i) (fun i => 8 - i) 0 ⟨Nat.zero_le _, Upto.zero _⟩
    (sim_of (rn := [((1, 0, 0), (1, 0, 0))]) rfl ⟨rfl, ?_, rfl, trivial⟩ ⟨⟨_, _, rfl, rfl, rfl⟩, trivial⟩) ?_
  · show some (D.v (.agg ⟨grid r.t⟩)) = some (D.v (.agg ⟨((roofC r).drop (0 + 3)).take 64⟩))
    rw [roof_grid]
  rintro i ⟨hi, hall⟩
  conv => whnf
  cases h4 : decide ((i : Int) < 8)
  · have h8 : i = 8 := by simp at h4; omega
    subst h8
    conv => whnf
    refine ⟨rfl, _, rfl, ?_⟩
    rw [hall.all]; rfl
  conv => whnf
  have h8 : i < 8 := by simp at h4; omega
  refine ⟨⟨by omega, by omega⟩, ?_⟩
  conv => whnf
  refine ⟨by simp; omega, ?_⟩
  conv => whnf
  refine ⟨by simp; omega, ?_⟩
  conv => whnf
  refine ⟨by simp; omega, ?_⟩
  conv => whnf
  refine ⟨by simp [splice]; omega, ?_⟩
  conv => whnf
  refine loop_rule (α := Nat) (fun k => [(1, .ptr (1, 0, 0) 0), (3, .v (.int .i64 i)), (23, gridD r.t), (24, .v (.int .i64 i)), (28, row8D (r.t i)), (29, .v (.int .i64 k))]) (fun _ => [((1, 0, 0), roofD r)]) (fun k => k ≤ 8 ∧ UptoK (cellOk r i) k) (fun k => 8 - k) 0 ⟨Nat.zero_le _, UptoK.zero _⟩
    (sim_of (rn := [((1, 0, 0), (1, 0, 0))]) rfl ⟨rfl, rfl, rfl, rfl, ?_, rfl, trivial⟩ ⟨⟨_, _, rfl, rfl, rfl⟩, trivial⟩) ?_
  · show some (D.v (.agg ⟨row8 (r.t i)⟩)) = some (D.v (.agg ⟨((splice (List.replicate 8 (.int .u8 0)) 0 (((grid r.t).drop ((i : Int).toNat * 8)).take 8)).drop 0).take 8⟩))
    rw [rowStored (by simp) (by omega) h8]
  rintro k ⟨hk, hrow⟩
  conv => whnf
  cases h5 : decide ((k : Int) < 8)
  · have hk8 : k = 8 := by simp at h5; omega
    subst hk8
    conv => whnf
    exact ⟨i + 1, by dsimp only; omega, ⟨by omega, hall.next hrow⟩, sim_of (rn := [((1, 0, 0), (1, 0, 0))]) rfl ⟨rfl, rfl, succ64 (by omega), trivial⟩ ⟨⟨_, _, rfl, rfl, rfl⟩, trivial⟩⟩
  conv => whnf
  have hk8 : k < 8 := by simp at h5; omega
  refine ⟨⟨by omega, by omega⟩, ?_⟩
  conv => whnf
  refine optK_of (row8_get (k := k) (by simp) hk8) ?_
  conv => whnf
  have bad : cellOk r i k = false → all8 (cellOk r) = false := all8_false h8 hk8
  have ht := hr.t i k
  cases h6 : decide (r.t i k > 3)
  case true =>
    conv => whnf
    refine ⟨rfl, _, rfl, ?_⟩
    have : decide (r.t i k ≤ 3) = false := by simp at h6 ⊢; omega
    rw [bad (by simp only [cellOk, this, Bool.false_and])]; rfl
  have h6' : decide (r.t i k ≤ 3) = true := by simp at h6 ⊢; omega
  conv => whnf
  have fin : cellOk r i k = true → ∃ y, 8 - y < 8 - k ∧ (y ≤ 8 ∧ UptoK (cellOk r i) y) ∧ y = k + 1 := fun h => ⟨k + 1, by omega, ⟨by omega, hrow.next h⟩, rfl⟩
  cases h7 : (r.t i k != 0)
  · conv => whnf
    obtain ⟨y, g1, g2, rfl⟩ := fin (by simp at h7; simp [cellOk, h7])
    exact ⟨_, g1, g2, sim_of (rn := [((1, 0, 0), (1, 0, 0))]) rfl ⟨rfl, rfl, rfl, rfl, rfl, succ64 (by omega), trivial⟩ ⟨⟨_, _, rfl, rfl, rfl⟩, trivial⟩⟩
  conv => whnf
  rw [e3]
  have h7' : decide (r.t i k = 0) = false := by simpa using h7
  cases h9 : decide ((i : Int) ≥ r.h)
  · conv => whnf
    rw [e4]
    cases h10 : decide ((k : Int) ≥ r.w)
    · conv => whnf
      obtain ⟨y, g1, g2, rfl⟩ := fin (by simp at h9 h10 h6'; simp [cellOk, h6']; right; omega)
      exact ⟨_, g1, g2, sim_of (rn := [((1, 0, 0), (1, 0, 0))]) rfl ⟨rfl, rfl, rfl, rfl, rfl, succ64 (by omega), trivial⟩ ⟨⟨_, _, rfl, rfl, rfl⟩, trivial⟩⟩
    · conv => whnf
      refine ⟨rfl, _, rfl, ?_⟩
      have : decide ((k : Int) < r.w) = false := by simp at h10 ⊢; omega
      rw [bad (by simp only [cellOk, this, h7', Bool.and_false, Bool.or_self])]; rfl
  · conv => whnf
    refine ⟨rfl, _, rfl, ?_⟩
    have : decide ((i : Int) < r.h) = false := by simp at h9 ⊢; omega
    rw [bad (by simp only [cellOk, this, h7', Bool.false_and, Bool.and_false, Bool.or_self])]; rfl
end Go.Proofs.Ytecjkbgepbefcaa
/- Contracts: valid ages, both sides. -/
set_option linter.unusedVariables false
set_option linter.unusedSimpArgs false
namespace Go.V
def inR (r : Roof) (c k : Nat) : Bool := decide ((c : Int) < r.h) && decide ((k : Int) < r.w)
def ageOk (r : Roof) (a : Nat → Nat → Int) (c k : Nat) : Bool := decide (a c k ≤ 100) && (inR r c k || decide (a c k = 0))
def okA (r : Roof) (a : Nat → Nat → Int) : Bool := okR r && all8 (ageOk r a)
theorem okR_bounds {r : Roof} (h : okR r = true) : (1 ≤ r.w ∧ r.w ≤ 8) ∧ (1 ≤ r.h ∧ r.h ≤ 8) ∧ r.s ≤ 1 := by
  simp only [okR_def, Bool.and_eq_true, decide_eq_true_eq] at h
  omega
theorem grid_at {t : Nat → Nat → Int} {c k o : Nat} (ho : o = c * 8 + k) (hc : c < 8) (hk : k < 8) : nth (grid t) o = some (.int .u8 (t c k)) := by
  subst ho; exact grid_get hc hk
end Go.V
namespace Go.Proofs.Ytecjkbgepbefcaa
open Go.V

theorem l07Ages_sat (r : Roof) (hr : r.In) (a : Nat → Nat → Int) (ha : AgesIn a) : Sat Try.prog 61 [.ref false (roofD r) 0, .ref false (gridD a) 0] (.v (.bool (okA r a))) := by
  refine sat_of_wp hMix tOk Try.func61 rfl rfl Try.ntmps61 rfl rfl Try.results61 (by kernel_rfl) ?_
  conv => whnf
  refine ⟨_, _, rfl, l01Ok_sat r hr, ?_⟩
  conv => whnf
  cases h1 : okR r
  · refine ⟨rfl, _, rfl, ?_⟩
    simp only [okA, h1, Bool.false_and]; rfl
  have hok : okA r a = all8 (ageOk r a) := by simp only [okA, h1, Bool.true_and]
  rw [hok]
  conv => whnf
  refine loop_rule (α := Nat) (fun c => [(0, .ref false (roofD r) 0), (1, .ref false (gridD a) 0), (5, .v (.int .i8 c))]) (fun _ => []) (fun c => c ≤ 8 ∧ Upto (ageOk r a) c) (fun c => 8 - c) 0 ⟨Nat.zero_le _, Upto.zero _⟩
    (sim_of (rn := []) rfl ⟨rfl, rfl, rfl, trivial⟩ trivial) ?_
  rintro c ⟨hc, hall⟩
  conv => whnf
  cases h4 : decide ((c : Int) < 8)
  · have h8 : c = 8 := by simp at h4; omega
    subst h8
    conv => whnf
    refine ⟨rfl, _, rfl, ?_⟩
    rw [hall.all]; rfl
  conv => whnf
  have h8 : c < 8 := by simp at h4; omega
  refine loop_rule (α := Nat) (fun k => [(0, .ref false (roofD r) 0), (1, .ref false (gridD a) 0), (5, .v (.int .i8 c)), (6, .v (.int .i8 k))]) (fun _ => []) (fun k => k ≤ 8 ∧ UptoK (ageOk r a c) k) (fun k => 8 - k) 0 ⟨Nat.zero_le _, UptoK.zero _⟩
    (sim_of (rn := []) rfl ⟨rfl, rfl, rfl, rfl, trivial⟩ trivial) ?_
  rintro k ⟨hk, hrow⟩
  conv => whnf
  cases h5 : decide ((k : Int) < 8)
  · have hk8 : k = 8 := by simp at h5; omega
    subst hk8
    conv => whnf
    exact ⟨c + 1, by dsimp only; omega, ⟨by omega, hall.next hrow⟩, sim_of (rn := []) rfl ⟨rfl, rfl, succ8 (by omega), trivial⟩ trivial⟩
  conv => whnf
  have hk8 : k < 8 := by simp at h5; omega
  have bad : ageOk r a c k = false → all8 (ageOk r a) = false := all8_false h8 hk8
  have fin : ageOk r a c k = true → ∃ y, 8 - y < 8 - k ∧ (y ≤ 8 ∧ UptoK (ageOk r a c) y) ∧ y = k + 1 := fun h => ⟨k + 1, by omega, ⟨by omega, hrow.next h⟩, rfl⟩
  refine ⟨⟨by omega, by omega⟩, ?_⟩
  conv => whnf
  refine ⟨⟨by omega, by omega⟩, ?_⟩
  conv => whnf
  refine optK_of (grid_at (c := c) (k := k) (by simp) h8 hk8) ?_
  conv => whnf
  have ht := ha.t c k
  cases h6 : decide (a c k > 100)
  case true =>
    conv => whnf
    refine ⟨rfl, _, rfl, ?_⟩
    have : decide (a c k ≤ 100) = false := by simp at h6 ⊢; omega
    rw [bad (by simp only [ageOk, this, Bool.false_and])]; rfl
  have h6' : decide (a c k ≤ 100) = true := by simp at h6 ⊢; omega
  conv => whnf
  refine ⟨_, _, rfl, l01Is_sat r hr c k ⟨by omega, by omega⟩ ⟨by omega, by omega⟩, ?_⟩
  conv => whnf
  have hin : (decide ((c : Int) ≥ 0) && decide ((c : Int) ≤ r.h - 1) && (decide ((k : Int) ≥ 0) && decide ((k : Int) ≤ r.w - 1))) = inR r c k := by
    rw [Bool.eq_iff_iff]; simp [inR]; omega
  rw [hin]
  cases h7 : inR r c k
  · conv => whnf
    refine ⟨⟨by omega, by omega⟩, ?_⟩
    conv => whnf
    refine ⟨⟨by omega, by omega⟩, ?_⟩
    conv => whnf
    refine optK_of (grid_at (c := c) (k := k) (by simp) h8 hk8) ?_
    conv => whnf
    cases h8' : (a c k != 0)
    · conv => whnf
      obtain ⟨y, g1, g2, rfl⟩ := fin (by simp at h8'; simp [ageOk, h8'])
      exact ⟨_, g1, g2, sim_of (rn := []) rfl ⟨rfl, rfl, rfl, succ8 (by omega), trivial⟩ trivial⟩
    · conv => whnf
      refine ⟨rfl, _, rfl, ?_⟩
      have : decide (a c k = 0) = false := by simpa using h8'
      rw [bad (by simp only [ageOk, this, h7, Bool.or_self, Bool.and_false])]; rfl
  · conv => whnf
    obtain ⟨y, g1, g2, rfl⟩ := fin (by simp only [ageOk, h6', h7, Bool.true_or, Bool.and_self])
    exact ⟨_, g1, g2, sim_of (rn := []) rfl ⟨rfl, rfl, rfl, succ8 (by omega), trivial⟩ trivial⟩

theorem validAges_sat (r : Roof) (hr : r.In) (a : Nat → Nat → Int) (ha : AgesIn a) : Sat Try.prog 20 [roofD r, gridD a] (.v (.bool (okA r a))) := by
  refine sat_of_wp hMix tOk Try.func20 rfl rfl Try.ntmps20 rfl rfl Try.results20 (by kernel_rfl) ?_
  conv => whnf
  refine ⟨by simp [roofC], ?_⟩
  conv => whnf
  have e0 : ((roofC r).drop 0).take 67 = roofC r := take_drop0 (by simp [roofC])
  have e0' : Sat Try.prog 67 [D.v (.agg ⟨((roofC r).drop 0).take 67⟩)] (.v (.bool (okR r))) := by rw [e0]; exact validRoof_sat r hr
  refine ⟨_, _, rfl, e0', ?_⟩
  conv => whnf
  cases h1 : okR r
  · refine ⟨rfl, _, rfl, ?_⟩
    simp only [okA, h1, Bool.false_and]; rfl
  have hok : okA r a = all8 (ageOk r a) := by simp only [okA, h1, Bool.true_and]
  rw [hok]
  have hb := okR_bounds h1
  conv => whnf
  refine ⟨by simp [gridD], ?_⟩
  conv => whnf
  refine loop_rule (α := Nat) (fun i => [(2, .ptr (2, 0, 0) 0), (12, gridD a), (13, .v (.int .i64 i))]) (fun i => [((2, 0, 0), roofD r)]) (fun i => i ≤ 8 ∧ Upto (ageOk r a) i) (fun i => 8 - i) 0 ⟨Nat.zero_le _, Upto.zero _⟩
    (sim_of (rn := [((2, 0, 0), (2, 0, 0))]) rfl ⟨rfl, ?_, rfl, trivial⟩ ⟨⟨_, _, rfl, rfl, rfl⟩, trivial⟩) ?_
  · show some (D.v (.agg ⟨grid a⟩)) = some (D.v (.agg ⟨((grid a).drop 0).take 64⟩))
    rw [take_drop0 (by simp)]
  rintro i ⟨hi, hall⟩
  conv => whnf
  cases h4 : decide ((i : Int) < 8)
  · have h8 : i = 8 := by simp at h4; omega
    subst h8
    conv => whnf
    refine ⟨rfl, _, rfl, ?_⟩
    rw [hall.all]; rfl
  conv => whnf
  have h8 : i < 8 := by simp at h4; omega
  refine ⟨⟨by omega, by omega⟩, ?_⟩
  conv => whnf
  refine ⟨by simp; omega, ?_⟩
  conv => whnf
  refine ⟨by simp; omega, ?_⟩
  conv => whnf
  refine ⟨by simp; omega, ?_⟩
  conv => whnf
  refine ⟨by simp [splice]; omega, ?_⟩
  conv => whnf
  refine loop_rule (α := Nat) (fun k => [(2, .ptr (2, 0, 0) 0), (5, .v (.int .i64 i)), (12, gridD a), (13, .v (.int .i64 i)), (17, row8D (a i)), (18, .v (.int .i64 k))]) (fun _ => [((2, 0, 0), roofD r)]) (fun k => k ≤ 8 ∧ UptoK (ageOk r a i) k) (fun k => 8 - k) 0 ⟨Nat.zero_le _, UptoK.zero _⟩
    (sim_of (rn := [((2, 0, 0), (2, 0, 0))]) rfl ⟨rfl, rfl, rfl, rfl, ?_, rfl, trivial⟩ ⟨⟨_, _, rfl, rfl, rfl⟩, trivial⟩) ?_
  · show some (D.v (.agg ⟨row8 (a i)⟩)) = some (D.v (.agg ⟨((splice (List.replicate 8 (.int .u8 0)) 0 (((grid a).drop ((i : Int).toNat * 8)).take 8)).drop 0).take 8⟩))
    rw [rowStored (by simp) (by omega) h8]
  rintro k ⟨hk, hrow⟩
  conv => whnf
  cases h5 : decide ((k : Int) < 8)
  · have hk8 : k = 8 := by simp at h5; omega
    subst hk8
    conv => whnf
    exact ⟨i + 1, by dsimp only; omega, ⟨by omega, hall.next hrow⟩, sim_of (rn := [((2, 0, 0), (2, 0, 0))]) rfl ⟨rfl, rfl, succ64 (by omega), trivial⟩ ⟨⟨_, _, rfl, rfl, rfl⟩, trivial⟩⟩
  conv => whnf
  have hk8 : k < 8 := by simp at h5; omega
  refine ⟨⟨by omega, by omega⟩, ?_⟩
  conv => whnf
  refine optK_of (row8_get (k := k) (by simp) hk8) ?_
  conv => whnf
  have bad : ageOk r a i k = false → all8 (ageOk r a) = false := all8_false h8 hk8
  have fin : ageOk r a i k = true → ∃ y, 8 - y < 8 - k ∧ (y ≤ 8 ∧ UptoK (ageOk r a i) y) ∧ y = k + 1 := fun h => ⟨k + 1, by omega, ⟨by omega, hrow.next h⟩, rfl⟩
  have ht := ha.t i k
  cases h6 : decide (a i k > 100)
  case true =>
    conv => whnf
    refine ⟨rfl, _, rfl, ?_⟩
    have : decide (a i k ≤ 100) = false := by simp at h6 ⊢; omega
    rw [bad (by simp only [ageOk, this, Bool.false_and])]; rfl
  have h6' : decide (a i k ≤ 100) = true := by simp at h6 ⊢; omega
  conv => whnf
  cases h7 : (a i k != 0)
  · conv => whnf
    obtain ⟨y, g1, g2, rfl⟩ := fin (by simp at h7; simp [ageOk, h7])
    exact ⟨_, g1, g2, sim_of (rn := [((2, 0, 0), (2, 0, 0))]) rfl ⟨rfl, rfl, rfl, rfl, rfl, succ64 (by omega), trivial⟩ ⟨⟨_, _, rfl, rfl, rfl⟩, trivial⟩⟩
  have h7' : decide (a i k = 0) = false := by simpa using h7
  conv => whnf
  refine ⟨by simp [roofC], ?_⟩
  conv => whnf
  have c1 : IntKind.i8.wrap (i : Int) = i := w8 (by omega) (by omega)
  have c2 : IntKind.i8.wrap (k : Int) = k := w8 (by omega) (by omega)
  have hs : Sat Try.prog 68 [D.v (.agg ⟨((roofC r).drop 0).take 67⟩), .v (.agg ⟨[.int .i8 (IntKind.i8.wrap (i : Int)), .int .i8 (IntKind.i8.wrap (k : Int))]⟩)] (.v (.bool (inR r i k))) := by
    rw [e0, c1, c2]
    have := has_sat r hr i k hb.1.1 hb.2.1.1
    have hin : (decide (0 ≤ (i : Int)) && decide ((i : Int) ≤ r.h - 1) && (decide (0 ≤ (k : Int)) && decide ((k : Int) ≤ r.w - 1))) = inR r i k := by
      rw [Bool.eq_iff_iff]; simp [inR]; omega
    rw [hin] at this
    exact this
  refine ⟨_, _, rfl, hs, ?_⟩
  conv => whnf
  cases h9 : inR r i k
  · conv => whnf
    refine ⟨rfl, _, rfl, ?_⟩
    rw [bad (by simp only [ageOk, h7', h9, Bool.or_self, Bool.and_false])]; rfl
  · conv => whnf
    obtain ⟨y, g1, g2, rfl⟩ := fin (by simp only [ageOk, h6', h9, Bool.true_or, Bool.and_self])
    exact ⟨_, g1, g2, sim_of (rn := [((2, 0, 0), (2, 0, 0))]) rfl ⟨rfl, rfl, rfl, rfl, rfl, succ64 (by omega), trivial⟩ ⟨⟨_, _, rfl, rfl, rfl⟩, trivial⟩⟩

end Go.Proofs.Ytecjkbgepbefcaa
/- Contracts: valid colours, both sides. -/
set_option linter.unusedVariables false
set_option linter.unusedSimpArgs false
namespace Go.V
theorem UptoK.all {p : Nat → Bool} (h : UptoK p 8) : (List.range 8).all p = true := by
  simp only [List.all_eq_true, List.mem_range]
  exact h
end Go.V
namespace Go.Proofs.Ytecjkbgepbefcaa
open Go.V

end Go.Proofs.Ytecjkbgepbefcaa
/- Contracts: mirrored colours, both sides. -/
set_option linter.unusedVariables false
set_option linter.unusedSimpArgs false
namespace Go.V
def orU8 (a b : Int) : Int := IntKind.u8.wrap (BitVec.ofInt IntKind.u8.bits a ||| BitVec.ofInt IntKind.u8.bits b).toNat
end Go.V
namespace Go.Proofs.Ytecjkbgepbefcaa
open Go.V
end Go.Proofs.Ytecjkbgepbefcaa
/- Contracts: mirrored colours, the program's side, and the law. -/
set_option linter.unusedVariables false
set_option linter.unusedSimpArgs false
namespace Go.V
end Go.V
namespace Go.Proofs.Ytecjkbgepbefcaa
open Go.V
end Go.Proofs.Ytecjkbgepbefcaa
/- Contracts: the text of colours, both sides, and the law. -/
set_option linter.unusedVariables false
set_option linter.unusedSimpArgs false
namespace Go.V
end Go.V
namespace Go.Proofs.Ytecjkbgepbefcaa
open Go.V
end Go.Proofs.Ytecjkbgepbefcaa
/- Contracts: how many tiles are red, both sides, and the law. -/
set_option linter.unusedVariables false
set_option linter.unusedSimpArgs false
namespace Go.V
end Go.V
namespace Go.Proofs.Ytecjkbgepbefcaa
open Go.V
end Go.Proofs.Ytecjkbgepbefcaa
/- Contracts: by how many tiles colours differ, both sides, and the law. -/
set_option linter.unusedVariables false
set_option linter.unusedSimpArgs false
namespace Go.V
end Go.V
namespace Go.Proofs.Ytecjkbgepbefcaa
open Go.V
end Go.Proofs.Ytecjkbgepbefcaa
/- Contracts: lists of places. -/
set_option linter.unusedVariables false
set_option linter.unusedSimpArgs false
namespace Go.V
abbrev Pl := Nat × Nat
def placesC : List Pl → List Value
  | [] => []
  | q :: r => .int .i8 q.1 :: .int .i8 q.2 :: placesC r
theorem placesC_append (a b : List Pl) : placesC (a ++ b) = placesC a ++ placesC b := by
  induction a with
  | nil => rfl
  | cons q a ih => simp only [placesC, List.cons_append, ih]
@[simp] theorem placesC_len (a : List Pl) : (placesC a).length = a.length * 2 := by
  induction a with
  | nil => rfl
  | cons q a ih => simp only [placesC, List.length_cons, ih]; omega
theorem placesC_sub : ∀ {a : List Pl} {i : Nat} {q : Pl}, a[i]? = some q → ((placesC a).drop (i * 2)).take 2 = [.int .i8 q.1, .int .i8 q.2]
  | [], i, q, h => by simp at h
  | p :: a, 0, q, h => by
    simp only [List.getElem?_cons_zero, Option.some.injEq] at h
    subst h
    rfl
  | p :: a, i + 1, q, h => by
    rw [show (i + 1) * 2 = i * 2 + 2 by omega]
    have := placesC_sub (a := a) (i := i) (q := q) (by simpa using h)
    simpa [placesC] using this
def rowP (c k : Nat) : List Pl := (List.range k).map fun j => (c, j)
def gridP (w c : Nat) : List Pl := (List.range c).flatMap fun i => rowP i w
theorem rowP_next (c k : Nat) : rowP c (k + 1) = rowP c k ++ [(c, k)] := by
  unfold rowP; rw [List.range_succ, List.map_append]; rfl
theorem gridP_next (w c : Nat) : gridP w (c + 1) = gridP w c ++ rowP c w := by
  unfold gridP; rw [List.range_succ, List.flatMap_append]; simp
@[simp] theorem rowP_zero (c : Nat) : rowP c 0 = [] := rfl
@[simp] theorem gridP_zero (w : Nat) : gridP w 0 = [] := rfl
@[simp] theorem rowP_len (c k : Nat) : (rowP c k).length = k := by unfold rowP; simp
theorem gridP_len (w : Nat) : ∀ c, (gridP w c).length = c * w
  | 0 => by simp
  | c + 1 => by rw [gridP_next, List.length_append, gridP_len w c, rowP_len, Nat.succ_mul]
/-- The places seen so far that are as told. -/
def pick (p : Nat → Nat → Bool) (w c k : Nat) : List Pl := (gridP w c ++ rowP c k).filter fun q => p q.1 q.2
theorem pick_len (p : Nat → Nat → Bool) {w c k : Nat} (hw : w ≤ 8) (hc : c ≤ 8) (hk : k ≤ 8) : (pick p w c k).length ≤ 72 := by
  unfold pick
  refine Nat.le_trans (List.length_filter_le _ _) ?_
  rw [List.length_append, gridP_len, rowP_len]
  have : c * w ≤ 8 * 8 := Nat.mul_le_mul hc hw
  omega
theorem pick_row (p : Nat → Nat → Bool) (w c : Nat) : pick p w (c + 1) 0 = pick p w c w := by
  unfold pick; rw [gridP_next, rowP_zero, List.append_nil]
theorem pick_yes {p : Nat → Nat → Bool} {w c k : Nat} (h : p c k = true) : pick p w c (k + 1) = pick p w c k ++ [(c, k)] := by
  unfold pick; rw [rowP_next, ← List.append_assoc, List.filter_append (l₂ := [(c, k)])]
  simp [h]
theorem pick_no {p : Nat → Nat → Bool} {w c k : Nat} (h : p c k = false) : pick p w c (k + 1) = pick p w c k := by
  unfold pick; rw [rowP_next, ← List.append_assoc, List.filter_append (l₂ := [(c, k)])]
  simp [h]
def placesD (mine : Bool) (ps : List Pl) : D := .row mine 2 (.v (.agg ⟨placesC ps⟩)) ps.length
/-- All places of a roof that are as told, in order. -/
def allP (r : Roof) (p : Nat → Nat → Bool) : List Pl := pick p r.w.toNat r.h.toNat 0
end Go.V
namespace Go.Proofs.Ytecjkbgepbefcaa
open Go.V
theorem l01All_sat (r : Roof) (hr : r.In) (hb : (1 ≤ r.w ∧ r.w ≤ 8) ∧ (1 ≤ r.h ∧ r.h ≤ 8) ∧ r.s ≤ 1) : Sat Try.prog 58 [.ref false (roofD r) 0] (placesD true (allP r fun _ _ => true)) := by
  refine sat_of_wp hMix tOk Try.func58 rfl rfl Try.ntmps58 rfl rfl Try.results58 (by kernel_rfl) ?_
  conv => whnf
  refine loop_rule (α := Nat) (fun c => [(0, .ref false (roofD r) 0), (3, .slc true 2 (28, 0, 0) 0 (pick (fun _ _ => true) r.w.toNat c 0).length), (4, .v (.int .i8 c))]) (fun c => [((28, 0, 0), .v (.agg ⟨placesC (pick (fun _ _ => true) r.w.toNat c 0)⟩))]) (fun c => c ≤ r.h.toNat) (fun c => 8 - c) 0 (Nat.zero_le _)
    (sim_of (rn := [((28, 0, 0), (6, 0, 0))]) rfl ⟨rfl, rfl, rfl, trivial⟩ ⟨⟨_, _, rfl, rfl, rfl⟩, trivial⟩) ?_
  intro c hc
  conv => whnf
  cases h4 : decide ((c : Int) < r.h)
  · have h8 : c = r.h.toNat := by simp at h4; omega
    subst h8
    exact ⟨rfl, _, rfl, rfl⟩
  conv => whnf
  have hch : (c : Int) < r.h := by simpa using h4
  refine loop_rule (α := Nat) (fun k => [(0, .ref false (roofD r) 0), (3, .slc true 2 (28, 0, 0) 0 (pick (fun _ _ => true) r.w.toNat c k).length), (4, .v (.int .i8 c)), (5, .v (.int .i8 k))]) (fun k => [((28, 0, 0), .v (.agg ⟨placesC (pick (fun _ _ => true) r.w.toNat c k)⟩))]) (fun k => k ≤ r.w.toNat) (fun k => 8 - k) 0 (Nat.zero_le _)
    (sim_of (rn := [((28, 0, 0), (28, 0, 0))]) rfl ⟨rfl, rfl, rfl, rfl, trivial⟩ ⟨⟨_, _, rfl, rfl, rfl⟩, trivial⟩) ?_
  intro k hk
  conv => whnf
  cases h5 : decide ((k : Int) < r.w)
  · have hkw : k = r.w.toNat := by simp at h5; omega
    subst hkw
    conv => whnf
    refine ⟨c + 1, by dsimp only; omega, by dsimp only; omega, sim_of (rn := [((28, 0, 0), (28, 0, 0))]) rfl ⟨rfl, ?_, succ8 (by omega), trivial⟩ ⟨⟨_, _, rfl, rfl, ?_⟩, trivial⟩⟩
    · rw [pick_row]; rfl
    · rw [pick_row]; rfl
  conv => whnf
  have hkw : (k : Int) < r.w := by simpa using h5
  have hl := pick_len (fun _ _ => true) (w := r.w.toNat) (c := c) (k := k) (by omega) (by omega) (by omega)
  refine ⟨⟨by show (_ + 1) * 2 ≤ 140737488355328; omega, by omega⟩, ?_⟩
  conv => whnf
  refine ⟨k + 1, by dsimp only; omega, by dsimp only; omega, sim_of (rn := [((28, 0, 0), (28, 1, 0))]) rfl ⟨rfl, ?_, rfl, succ8 (by omega), trivial⟩ ⟨⟨_, _, rfl, rfl, ?_⟩, trivial⟩⟩
  · rw [pick_yes rfl, List.length_append]; rfl
  · rw [pick_yes rfl, placesC_append]; rfl

theorem places_sat {g : Nat} {p : Nat → Nat → Bool} (r : Roof) (hr : r.In) (hb : (1 ≤ r.w ∧ r.w ≤ 8) ∧ (1 ≤ r.h ∧ r.h ≤ 8) ∧ r.s ≤ 1) (hg : ∀ c k : Nat, c < 8 → k < 8 → Sat Try.prog g [placeD c k] (.v (.bool (p c k)))) :
    Sat Try.prog 55 [roofD r, .fn (.func g) [] []] (placesD true (allP r p)) := by
  refine sat_of_wp hMix tOk Try.func55 rfl rfl Try.ntmps55 rfl rfl Try.results55 (by kernel_rfl) ?_
  conv => whnf
  refine loop_rule (α := Nat) (fun c => [(1, .fn (.func g) [] []), (2, .ptr (2, 0, 0) 0), (5, .slc true 2 (28, 0, 0) 0 (pick p r.w.toNat c 0).length), (9, .v (.int .i8 r.h)), (10, .v (.int .i8 c))]) (fun c => [((2, 0, 0), roofD r), ((28, 0, 0), .v (.agg ⟨placesC (pick p r.w.toNat c 0)⟩))]) (fun c => c ≤ r.h.toNat) (fun c => 8 - c) 0 (Nat.zero_le _)
    (sim_of (rn := [((2, 0, 0), (2, 0, 0)), ((28, 0, 0), nilId)]) rfl ⟨rfl, rfl, rfl, rfl, rfl, trivial⟩ ⟨⟨_, _, rfl, rfl, rfl⟩, ⟨_, _, rfl, rfl, rfl⟩, trivial⟩) ?_
  intro c hc
  conv => whnf
  cases h4 : decide ((c : Int) < r.h)
  · have h8 : c = r.h.toNat := by simp at h4; omega
    subst h8
    exact ⟨rfl, _, rfl, rfl⟩
  conv => whnf
  have hch : (c : Int) < r.h := by simpa using h4
  refine loop_rule (α := Nat) (fun k => [(1, .fn (.func g) [] []), (2, .ptr (2, 0, 0) 0), (5, .slc true 2 (28, 0, 0) 0 (pick p r.w.toNat c k).length), (6, .v (.int .i8 c)), (9, .v (.int .i8 r.h)), (10, .v (.int .i8 c)), (14, .v (.int .i8 r.w)), (15, .v (.int .i8 k))]) (fun k => [((2, 0, 0), roofD r), ((28, 0, 0), .v (.agg ⟨placesC (pick p r.w.toNat c k)⟩))]) (fun k => k ≤ r.w.toNat) (fun k => 8 - k) 0 (Nat.zero_le _)
    (sim_of (rn := [((2, 0, 0), (2, 0, 0)), ((28, 0, 0), (28, 0, 0))]) rfl ⟨rfl, rfl, rfl, rfl, rfl, rfl, rfl, rfl, trivial⟩ ⟨⟨_, _, rfl, rfl, rfl⟩, ⟨_, _, rfl, rfl, rfl⟩, trivial⟩) ?_
  intro k hk
  conv => whnf
  cases h5 : decide ((k : Int) < r.w)
  · have hkw : k = r.w.toNat := by simp at h5; omega
    subst hkw
    conv => whnf
    refine ⟨c + 1, by dsimp only; omega, by dsimp only; omega, sim_of (rn := [((2, 0, 0), (2, 0, 0)), ((28, 0, 0), (28, 0, 0))]) rfl ⟨rfl, rfl, ?_, rfl, succ8 (by omega), trivial⟩ ⟨⟨_, _, rfl, rfl, rfl⟩, ⟨_, _, rfl, rfl, ?_⟩, trivial⟩⟩
    · rw [pick_row]; rfl
    · rw [pick_row]; rfl
  conv => whnf
  have hkw : (k : Int) < r.w := by simpa using h5
  refine .inl ⟨_, _, rfl, hg c k (by omega) (by omega), ?_⟩
  conv => whnf
  have hl := pick_len p (w := r.w.toNat) (c := c) (k := k) (by omega) (by omega) (by omega)
  cases hp : p c k
  · conv => whnf
    refine ⟨k + 1, by dsimp only; omega, by dsimp only; omega, sim_of (rn := [((2, 0, 0), (2, 0, 0)), ((28, 0, 0), (28, 0, 0))]) rfl ⟨rfl, rfl, ?_, rfl, rfl, rfl, rfl, succ8 (by omega), trivial⟩ ⟨⟨_, _, rfl, rfl, rfl⟩, ⟨_, _, rfl, rfl, ?_⟩, trivial⟩⟩
    · rw [pick_no hp]; rfl
    · rw [pick_no hp]; rfl
  · conv => whnf
    refine ⟨⟨by show (_ + 1) * 2 ≤ 140737488355328; omega, by omega⟩, ?_⟩
    conv => whnf
    refine ⟨k + 1, by dsimp only; omega, by dsimp only; omega, sim_of (rn := [((2, 0, 0), (2, 0, 0)), ((28, 0, 0), (28, 1, 0))]) rfl ⟨rfl, rfl, ?_, rfl, rfl, rfl, rfl, succ8 (by omega), trivial⟩ ⟨⟨_, _, rfl, rfl, rfl⟩, ⟨_, _, rfl, rfl, ?_⟩, trivial⟩⟩
    · rw [pick_yes hp, List.length_append]; rfl
    · rw [pick_yes hp, placesC_append]; rfl
end Go.Proofs.Ytecjkbgepbefcaa
/- Contracts: valid words. -/
set_option linter.unusedVariables false
set_option linter.unusedSimpArgs false
namespace Go.V
end Go.V
namespace Go.Proofs.Ytecjkbgepbefcaa
open Go.V

section
variable {g : Nat} {p : Int → Bool}
end

end Go.Proofs.Ytecjkbgepbefcaa
/- Contracts: patterns of words, both sides, and the law. -/
set_option linter.unusedVariables false
set_option linter.unusedSimpArgs false
namespace Go.V
def patB (b : ByteArray) (s c k : Nat) : Bool := byteAt b ((k + s * c) % b.size) == 114
def accS (b : ByteArray) (s : Nat) (f : Nat → Int) (q : Pl) : Nat → Int := fun j => if j = q.1 ∧ patB b s q.1 q.2 = true then orU8 (f j) (IntKind.u8.wrap (1 * 2 ^ (min q.2 IntKind.u8.bits))) else f j
def acc (b : ByteArray) (s : Nat) (ps : List Pl) : Nat → Int := ps.foldl (accS b s) fun _ => 0
theorem allP_true (r : Roof) : (allP r fun _ _ => true) = gridP r.w.toNat r.h.toNat := by
  unfold allP pick; simp
end Go.V
namespace Go.Proofs.Ytecjkbgepbefcaa
open Go.V
theorem within64_sat (n lo hi : Int) : Sat Try.prog 108 [.v (.int .i64 n), .v (.int .i64 lo), .v (.int .i64 hi)] (.v (.bool (decide (lo ≤ n) && decide (n ≤ hi)))) := by
  refine sat_of_wp hMix tOk Try.func108 rfl rfl Try.ntmps108 rfl rfl Try.results108 (by kernel_rfl) ?_
  conv => whnf
  cases h1 : decide (lo ≤ n)
  · exact ⟨rfl, _, rfl, rfl⟩
  · conv => whnf
    cases h2 : decide (n ≤ hi) <;> exact ⟨rfl, _, rfl, rfl⟩

end Go.Proofs.Ytecjkbgepbefcaa
/- Contracts: codes of ages, the age of a tile. -/
set_option linter.unusedVariables false
set_option linter.unusedSimpArgs false
namespace Go.V
def askC (r : Roof) (a : Nat → Nat → Int) (is : Bool) : Int := if okA r a = true then (if is = true then 0 else 2) else 1
end Go.V
namespace Go.Proofs.Ytecjkbgepbefcaa
open Go.V
theorem l07Asked_sat (r : Roof) (hr : r.In) (a : Nat → Nat → Int) (ha : AgesIn a) (is : Bool) : Sat Try.prog 50 [.ref false (roofD r) 0, .ref false (gridD a) 0, .v (.bool is)] (.v (.int .i64 (askC r a is))) := by
  refine sat_of_wp hMix tOk Try.func50 rfl rfl Try.ntmps50 rfl rfl Try.results50 (by kernel_rfl) ?_
  conv => whnf
  refine ⟨_, _, rfl, l07Ages_sat r hr a ha, ?_⟩
  conv => whnf
  cases h1 : okA r a
  · refine ⟨rfl, _, rfl, ?_⟩
    simp only [askC, h1]; rfl
  conv => whnf
  cases is
  · refine ⟨rfl, _, rfl, ?_⟩
    simp only [askC, h1]; rfl
  · refine ⟨rfl, _, rfl, ?_⟩
    simp only [askC, h1]; rfl

theorem agesCode_sat (r : Roof) (hr : r.In) (a : Nat → Nat → Int) (ha : AgesIn a) (is : Bool) : Sat Try.prog 60 [roofD r, gridD a, .v (.bool is)] (.v (.int .i64 (askC r a is))) := by
  have e0 : ((roofC r).drop 0).take 67 = roofC r := take_drop0 (by simp [roofC])
  have e1 : ((grid a).drop 0).take 64 = grid a := take_drop0 (by simp)
  have cv : Sat Try.prog 20 [D.v (.agg ⟨((roofC r).drop 0).take 67⟩), D.v (.agg ⟨((grid a).drop 0).take 64⟩)] (.v (.bool (okA r a))) := by rw [e0, e1]; exact validAges_sat r hr a ha
  refine sat_of_wp hMix tOk Try.func60 rfl rfl Try.ntmps60 rfl rfl Try.results60 (by kernel_rfl) ?_
  conv => whnf
  refine ⟨by simp [roofC], ?_⟩
  conv => whnf
  refine ⟨by simp, ?_⟩
  conv => whnf
  refine ⟨_, _, rfl, cv, ?_⟩
  conv => whnf
  cases h1 : okA r a
  · refine ⟨rfl, _, rfl, ?_⟩
    simp only [askC, h1]; rfl
  conv => whnf
  cases is
  · refine ⟨rfl, _, rfl, ?_⟩
    simp only [askC, h1]; rfl
  · refine ⟨rfl, _, rfl, ?_⟩
    simp only [askC, h1]; rfl

theorem l07Age_sat (a : Nat → Nat → Int) (ha : AgesIn a) (c k : Nat) (hc : c < 8) (hk : k < 8) : Sat Try.prog 59 [.ref false (gridD a) 0, placeD c k] (.v (.int .i64 (a c k))) := by
  have ht := ha.t c k
  have e : IntKind.i64.wrap (a c k) = a c k := w64 (by omega) (by omega)
  refine sat_of_wp hMix tOk Try.func59 rfl rfl Try.ntmps59 rfl rfl Try.results59 (by kernel_rfl) ?_
  conv => whnf
  refine ⟨⟨by omega, by omega⟩, ?_⟩
  conv => whnf
  refine ⟨⟨by omega, by omega⟩, ?_⟩
  conv => whnf
  refine optK_of (grid_at (c := c) (k := k) (by simp) hc hk) ?_
  conv => whnf
  rw [e]
  exact ⟨rfl, _, rfl, rfl⟩

theorem at_sat (a : Nat → Nat → Int) (ha : AgesIn a) (c k : Nat) (hc : c < 8) (hk : k < 8) : Sat Try.prog 48 [gridD a, placeD c k] (.v (.int .i64 (a c k))) := by
  have ht := ha.t c k
  have e : IntKind.i64.wrap (a c k) = a c k := w64 (by omega) (by omega)
  refine sat_of_wp hMix tOk Try.func48 rfl rfl Try.ntmps48 rfl rfl Try.results48 (by kernel_rfl) ?_
  conv => whnf
  refine ⟨⟨by omega, by omega⟩, ?_⟩
  conv => whnf
  refine ⟨⟨by omega, by omega⟩, ?_⟩
  conv => whnf
  refine optK_of (grid_at (c := c) (k := k) (by simp) hc hk) ?_
  conv => whnf
  rw [e]
  exact ⟨rfl, _, rfl, rfl⟩
end Go.Proofs.Ytecjkbgepbefcaa
/- Contracts: the oldest tile, both sides. -/
set_option linter.unusedVariables false
set_option linter.unusedSimpArgs false
namespace Go.V
def cmpI (x y : Int) : Int := if x < y then -1 else if x > y then 1 else 0
def nthP (ps : List Pl) (i : Nat) : Pl := ps.getD i (0, 0)
theorem nthP_some {ps : List Pl} {i : Nat} (h : i < ps.length) : ps[i]? = some (nthP ps i) := by
  unfold nthP; rw [List.getD_eq_getElem?_getD]; simp [h]
def bestL (a : Nat → Nat → Int) (ps : List Pl) : Nat → Pl
  | 0 => nthP ps 0
  | i + 1 => if a (nthP ps (i + 1)).1 (nthP ps (i + 1)).2 > a (bestL a ps i).1 (bestL a ps i).2 then nthP ps (i + 1) else bestL a ps i
def AllIn (ps : List Pl) : Prop := ∀ i, i < ps.length → (nthP ps i).1 < 8 ∧ (nthP ps i).2 < 8
theorem bestL_in {a : Nat → Nat → Int} {ps : List Pl} (h : AllIn ps) : ∀ i, i < ps.length → (bestL a ps i).1 < 8 ∧ (bestL a ps i).2 < 8
  | 0, hi => h 0 hi
  | i + 1, hi => by
    simp only [bestL]
    split
    · exact h _ hi
    · exact bestL_in h i (by omega)
def plD (q : Pl) : D := placeD q.1 q.2
theorem cmpI_pos (x y : Int) : decide (cmpI x y > 0) = decide (x > y) := by
  unfold cmpI
  split
  · rw [Bool.eq_iff_iff]; simp; omega
  · split
    · rw [Bool.eq_iff_iff]; simp; omega
    · rw [Bool.eq_iff_iff]; simp; omega
theorem place_load {ps : List Pl} {i o : Nat} (ho : o = i * 2) (h : i < ps.length) : ((placesC ps).drop o).take 2 = [.int .i8 (nthP ps i).1, .int .i8 (nthP ps i).2] := by
  subst ho; exact placesC_sub (nthP_some h)
theorem gridP_in {w h : Nat} (hw : w ≤ 8) (hh : h ≤ 8) : AllIn (gridP w h) := by
  intro i hi
  have hm : nthP (gridP w h) i ∈ gridP w h := List.mem_of_getElem? (nthP_some hi)
  generalize nthP (gridP w h) i = q at hm
  unfold gridP rowP at hm
  simp only [List.mem_flatMap, List.mem_range, List.mem_map] at hm
  obtain ⟨x, hx, j, hj, rfl⟩ := hm
  constructor <;> simp only <;> omega
def oldP (r : Roof) (a : Nat → Nat → Int) : Pl := bestL a (gridP r.w.toNat r.h.toNat) ((gridP r.w.toNat r.h.toNat).length - 1)
theorem gridP_size {r : Roof} (hb : (1 ≤ r.w ∧ r.w ≤ 8) ∧ (1 ≤ r.h ∧ r.h ≤ 8) ∧ r.s ≤ 1) : 1 ≤ (gridP r.w.toNat r.h.toNat).length ∧ (gridP r.w.toNat r.h.toNat).length ≤ 72 := by
  rw [gridP_len]
  have h1 : r.h.toNat * r.w.toNat ≤ 8 * 8 := Nat.mul_le_mul (by omega) (by omega)
  have h2 : 1 * 1 ≤ r.h.toNat * r.w.toNat := Nat.mul_le_mul (by omega) (by omega)
  omega
end Go.V
namespace Go.Proofs.Ytecjkbgepbefcaa
open Go.V
theorem isNaN_sat (x : Int) : Sat Try.prog 129 [.v (.int .i64 x)] (.v (.bool false)) := by
  refine sat_of_wp hMix tOk Try.func129 rfl rfl Try.ntmps129 rfl rfl Try.results129 (by kernel_rfl) ?_
  conv => whnf
  refine ⟨rfl, _, rfl, ?_⟩
  show D.v (.bool false) = D.v (.bool (x != x))
  rw [show (x != x) = false by simp]

theorem compare_sat (x y : Int) : Sat Try.prog 105 [.v (.int .i64 x), .v (.int .i64 y)] (.v (.int .i64 (cmpI x y))) := by
  refine sat_of_wp hMix tOk Try.func105 rfl rfl Try.ntmps105 rfl rfl Try.results105 (by kernel_rfl) ?_
  conv => whnf
  refine ⟨_, _, rfl, isNaN_sat x, ?_⟩
  conv => whnf
  refine ⟨_, _, rfl, isNaN_sat y, ?_⟩
  conv => whnf
  cases h : decide (x < y)
  · conv => whnf
    have h' : ¬ x < y := by simpa using h
    cases h2 : decide (x > y)
    · refine ⟨rfl, _, rfl, ?_⟩
      have h2' : ¬ x > y := by simpa using h2
      simp only [cmpI, if_neg h', if_neg h2']; rfl
    · refine ⟨rfl, _, rfl, ?_⟩
      have h2' : x > y := by simpa using h2
      simp only [cmpI, if_neg h', if_pos h2']; rfl
  · refine ⟨rfl, _, rfl, ?_⟩
    have h' : x < y := by simpa using h
    simp only [cmpI, if_pos h']; rfl

theorem oldest2_sat (a : Nat → Nat → Int) (ha : AgesIn a) (c k c' k' : Nat) (hc : c < 8) (hk : k < 8) (hc' : c' < 8) (hk' : k' < 8) :
    Sat Try.prog 104 [placeD c k, placeD c' k', .ref false (gridD a) 0] (.v (.int .i64 (cmpI (a c k) (a c' k')))) := by
  have e1 : ((grid a).drop 0).take 64 = grid a := take_drop0 (by simp)
  have ca : ∀ c k : Nat, c < 8 → k < 8 → Sat Try.prog 48 [D.v (.agg ⟨((grid a).drop 0).take 64⟩), placeD c k] (.v (.int .i64 (a c k))) := fun c k hc hk => by rw [e1]; exact at_sat a ha c k hc hk
  refine sat_of_wp hMix tOk Try.func104 rfl rfl Try.ntmps104 rfl rfl Try.results104 (by kernel_rfl) ?_
  conv => whnf
  refine ⟨by simp [gridD], ?_⟩
  conv => whnf
  refine ⟨by simp, ?_⟩
  conv => whnf
  refine ⟨_, _, rfl, ca c k hc hk, ?_⟩
  conv => whnf
  refine ⟨by simp [gridD], ?_⟩
  conv => whnf
  refine ⟨by simp, ?_⟩
  conv => whnf
  refine ⟨_, _, rfl, ca c' k' hc' hk', ?_⟩
  conv => whnf
  refine ⟨_, _, rfl, compare_sat _ _, ?_⟩
  exact ⟨rfl, _, rfl, rfl⟩

theorem maxFunc_sat (a : Nat → Nat → Int) (ha : AgesIn a) (ps : List Pl) (hl : 1 ≤ ps.length ∧ ps.length ≤ 72) (hps : AllIn ps) :
    Sat Try.prog 102 [placesD false ps, .fn (.func 104) [] [.ref false (gridD a) 0]] (plD (bestL a ps (ps.length - 1))) := by
  refine sat_of_wp hMix tOk Try.func102 rfl rfl Try.ntmps102 rfl rfl Try.results102 (by kernel_rfl) ?_
  conv => whnf
  have hne : decide ((ps.length : Int) < 1) = false := by simp; omega
  rw [hne]
  conv => whnf
  refine ⟨⟨by omega, by omega⟩, ?_⟩
  conv => whnf
  refine ⟨by simp; omega, ?_⟩
  conv => whnf
  have e0 : List.take ti37.size (List.drop (Int.toNat 0 * ti37.size) ({ toList := placesC ps } : Array Value).toList) = [.int .i8 (nthP ps 0).1, .int .i8 (nthP ps 0).2] :=
    place_load (i := 0) (by simp) (by omega)
  rw [e0]
  refine ⟨rfl, ?_⟩
  conv => whnf
  refine ⟨by simp, ?_⟩
  conv => whnf
  refine loop_rule (α := Nat) (fun i => [(0, placesD false ps), (1, .fn (.func 104) [] [.ref false (gridD a) 0]), (4, .ptr (4, 0, 0) 0), (5, .ptr (5, 0, 0) 0), (6, .v (.int .i64 ((i + 1 : Nat) : Int)))])
    (fun i => [((4, 0, 0), .v (.agg ⟨[.int .i8 0, .int .i8 0]⟩)), ((5, 0, 0), plD (bestL a ps i))]) (fun i => i + 1 ≤ ps.length) (fun i => ps.length - i) 0 (by omega)
    (sim_of (rn := [((4, 0, 0), (4, 0, 0)), ((5, 0, 0), (5, 0, 0))]) rfl ⟨rfl, rfl, rfl, rfl, rfl, trivial⟩ ⟨⟨_, _, rfl, rfl, rfl⟩, ⟨_, _, rfl, rfl, rfl⟩, trivial⟩) ?_
  intro i hi
  conv => whnf
  cases h4 : decide (((i + 1 : Nat) : Int) < (ps.length : Int))
  · have h8 : i = ps.length - 1 := by simp at h4; omega
    subst h8
    conv => whnf
    refine ⟨by simp, ?_⟩
    conv => whnf
    refine ⟨by simp, ?_⟩
    conv => whnf
    refine ⟨by simp, ?_⟩
    conv => whnf
    refine ⟨by simp [splice], ?_⟩
    exact ⟨rfl, _, rfl, rfl⟩
  conv => whnf
  have hlt : i + 1 < ps.length := by simp at h4; omega
  refine ⟨⟨by omega, by omega⟩, ?_⟩
  conv => whnf
  refine ⟨by simp; omega, ?_⟩
  conv => whnf
  have e1 : ((placesC ps).drop (((i + 1 : Nat) : Int).toNat * 2)).take 2 = [.int .i8 (nthP ps (i + 1)).1, .int .i8 (nthP ps (i + 1)).2] := place_load (by omega) hlt
  have q1 := hps (i + 1) hlt
  have q2 := bestL_in (a := a) hps i (by omega)
  refine ⟨by simp, ?_⟩
  conv => whnf
  have cc : Sat Try.prog 104 [.v (.agg ⟨((placesC ps).drop (((i + 1 : Nat) : Int).toNat * 2)).take 2⟩), plD (bestL a ps i), .ref false (gridD a) 0] (.v (.int .i64 (cmpI (a (nthP ps (i + 1)).1 (nthP ps (i + 1)).2) (a (bestL a ps i).1 (bestL a ps i).2)))) := by
    rw [e1]; exact oldest2_sat a ha _ _ _ _ q1.1 q1.2 q2.1 q2.2
  refine ⟨_, _, rfl, cc, ?_⟩
  conv => whnf
  rw [cmpI_pos]
  cases h5 : decide (a (nthP ps (i + 1)).1 (nthP ps (i + 1)).2 > a (bestL a ps i).1 (bestL a ps i).2)
  · have hb : bestL a ps (i + 1) = bestL a ps i := by
      have : ¬ a (nthP ps (i + 1)).1 (nthP ps (i + 1)).2 > a (bestL a ps i).1 (bestL a ps i).2 := by simpa using h5
      simp only [bestL, if_neg this]
    conv => whnf
    refine ⟨i + 1, by dsimp only; omega, by dsimp only; omega, sim_of (rn := [((4, 0, 0), (4, 0, 0)), ((5, 0, 0), (5, 0, 0))]) rfl ⟨rfl, rfl, rfl, rfl, succ64 (by omega), trivial⟩ ⟨⟨_, _, rfl, rfl, rfl⟩, ⟨_, _, rfl, rfl, ?_⟩, trivial⟩⟩
    rw [hb]; rfl
  · have hb : bestL a ps (i + 1) = nthP ps (i + 1) := by
      have : a (nthP ps (i + 1)).1 (nthP ps (i + 1)).2 > a (bestL a ps i).1 (bestL a ps i).2 := by simpa using h5
      simp only [bestL, if_pos this]
    conv => whnf
    refine ⟨⟨by omega, by omega⟩, ?_⟩
    conv => whnf
    refine ⟨by simp; omega, ?_⟩
    conv => whnf
    refine ⟨by simp; omega, ?_⟩
    conv => whnf
    refine ⟨by simp; omega, ?_⟩
    conv => whnf
    refine ⟨i + 1, by dsimp only; omega, by dsimp only; omega, sim_of (rn := [((4, 0, 0), (4, 0, 0)), ((5, 0, 0), (5, 0, 0))]) rfl ⟨rfl, rfl, rfl, rfl, succ64 (by omega), trivial⟩ ⟨⟨_, _, rfl, rfl, rfl⟩, ⟨_, _, rfl, rfl, ?_⟩, trivial⟩⟩
    rw [hb]
    show some (D.v (.agg ⟨splice [.int .i8 (bestL a ps i).1, .int .i8 (bestL a ps i).2] 0 (((placesC ps).drop (((i + 1 : Nat) : Int).toNat * 2)).take 2)⟩)) = some (D.v (.agg ⟨[.int .i8 (nthP ps (i + 1)).1, .int .i8 (nthP ps (i + 1)).2]⟩))
    rw [e1]; rfl

theorem oldest1_sat (c k : Nat) : Sat Try.prog 103 [placeD c k] (.v (.bool true)) := by
  refine sat_of_wp hMix tOk Try.func103 rfl rfl Try.ntmps103 rfl rfl Try.results103 (by kernel_rfl) ?_
  exact ⟨rfl, _, rfl, rfl⟩

theorem oldest_sat (r : Roof) (hr : r.In) (hb : (1 ≤ r.w ∧ r.w ≤ 8) ∧ (1 ≤ r.h ∧ r.h ≤ 8) ∧ r.s ≤ 1) (a : Nat → Nat → Int) (ha : AgesIn a) : Sat Try.prog 49 [roofD r, gridD a] (plD (oldP r a)) := by
  have e0 : ((roofC r).drop 0).take 67 = roofC r := take_drop0 (by simp [roofC])
  have hp : Sat Try.prog 55 [D.v (.agg ⟨((roofC r).drop 0).take 67⟩), .fn (.func 103) [] []] (placesD true (gridP r.w.toNat r.h.toNat)) := by
    rw [e0, ← allP_true]; exact places_sat r hr hb fun c k _ _ => oldest1_sat c k
  have hs := gridP_size hb
  have e2 : ((placesC (gridP r.w.toNat r.h.toNat)).drop 0).take ((gridP r.w.toNat r.h.toNat).length * 2) = placesC (gridP r.w.toNat r.h.toNat) := take_drop0 (by simp)
  have hm : Sat Try.prog 102 [.row false 2 (.v (.agg ⟨((placesC (gridP r.w.toNat r.h.toNat)).drop 0).take ((gridP r.w.toNat r.h.toNat).length * 2)⟩)) (gridP r.w.toNat r.h.toNat).length, .fn (.func 104) [] [.ref false (gridD a) 0]] (plD (oldP r a)) := by
    rw [e2]; exact maxFunc_sat a ha _ hs (gridP_in (by omega) (by omega))
  refine sat_of_wp hMix tOk Try.func49 rfl rfl Try.ntmps49 rfl rfl Try.results49 (by kernel_rfl) ?_
  conv => whnf
  refine ⟨by simp [roofC], ?_⟩
  conv => whnf
  refine ⟨_, _, rfl, hp, ?_⟩
  conv => whnf
  refine ⟨_, _, rfl, hm, ?_⟩
  conv => whnf
  refine ⟨by simp, ?_⟩
  conv => whnf
  refine ⟨by simp, ?_⟩
  conv => whnf
  refine ⟨by simp [splice], ?_⟩
  exact ⟨rfl, _, rfl, rfl⟩
end Go.Proofs.Ytecjkbgepbefcaa
/- Plain words for use: lengths, looks into grids and lists. -/
set_option linter.unusedVariables false
set_option linter.unusedSimpArgs false
namespace Go.V
@[simp] theorem roofC_len (r : Roof) : (roofC r).length = 67 := by simp [roofC]
/-- The oldest is at least as old as any. -/
theorem bestL_max (a : Nat → Nat → Int) (ps : List Pl) : ∀ i j, j ≤ i → a (nthP ps j).1 (nthP ps j).2 ≤ a (bestL a ps i).1 (bestL a ps i).2
  | 0, j, h => by
    have : j = 0 := by omega
    subst this; simp [bestL]
  | i + 1, j, h => by
    simp only [bestL]
    split
    · rename_i hgt
      by_cases hj : j = i + 1
      · subst hj; omega
      · have := bestL_max a ps i j (by omega); omega
    · rename_i hle
      by_cases hj : j = i + 1
      · subst hj; omega
      · exact bestL_max a ps i j (by omega)
/-- The i-th place of a grid. -/
theorem gridP_nth {w h i : Nat} (hi : i < h * w) : nthP (gridP w h) i = (i / w, i % w) := by
  unfold nthP
  induction h with
  | zero => simp at hi
  | succ h ih =>
    rw [gridP_next, List.getD_eq_getElem?_getD, List.getElem?_append]
    have hw : 0 < w := by
      rcases Nat.eq_zero_or_pos w with h0 | h0
      · subst h0; simp at hi
      · exact h0
    rw [gridP_len]
    split
    · rename_i hlt
      have := ih hlt
      rw [List.getD_eq_getElem?_getD] at this
      exact this
    · rename_i hge
      have hge' : h * w ≤ i := by omega
      rw [Nat.succ_mul] at hi
      have e1 : i / w = h := by
        rw [Nat.div_eq_iff hw]; constructor
        · omega
        · omega
      have e2 : i % w = i - h * w := by
        have := Nat.div_add_mod i w
        rw [e1, Nat.mul_comm] at this
        omega
      rw [e1, e2]
      unfold rowP
      simp [show i - h * w < w by omega]
theorem gridN {t : Nat → Nat → Int} {c k : Nat} (hc : c < 8) (hk : k < 8) : nth (grid t) (0 + (c : Int).toNat * 8 + (k : Int).toNat * 1) = some (.int .u8 (t c k)) := grid_at (by simp) hc hk
theorem roofN {r : Roof} {c k : Nat} (hc : c < 8) (hk : k < 8) : nth (roofC r) (0 + 3 + (c : Int).toNat * 8 + (k : Int).toNat * 1) = some (.int .u8 (r.t c k)) := roof_get (by simp) hc hk
theorem rowN {t : Nat → Int} {k : Nat} (hk : k < 8) : nth (row8 t) (0 + (k : Int).toNat * 1) = some (.int .u8 (t k)) := row8_get (by simp) hk
theorem vrow {t : Nat → Nat → Int} {c o : Nat} (ho : o = c * 8) (hc : c < 8) : D.v (.agg ⟨((grid t).drop o).take 8⟩) = row8D (t c) := by
  rw [grid_row ho hc]; rfl
theorem vtiles {r : Roof} {o : Nat} (ho : o = 3) : D.v (.agg ⟨((roofC r).drop o).take 64⟩) = gridD r.t := by
  subst ho
  unfold gridD
  simp [roofC, take_full]
theorem grid_zero : grid (fun _ _ => 0) = List.replicate 64 (.int .u8 0) := by
  unfold grid
  rw [tab_def]
  simp [List.map_const']
/-- A cell of a grid replaced. -/
def putG (t : Nat → Nat → Int) (c k : Nat) (x : Int) : Nat → Nat → Int := fun c' k' => if c' = c ∧ k' = k then x else t c' k'
theorem grid_set {t : Nat → Nat → Int} {c k o : Nat} {x : Int} (ho : o = c * 8 + k) (hc : c < 8) (hk : k < 8) : (grid t).set o (.int .u8 x) = grid (putG t c k x) := by
  subst ho
  unfold grid putG
  rw [tab_set]
  apply tab_congr
  intro i hi
  by_cases h : i = c * 8 + k
  · subst h
    rw [if_pos rfl, if_pos ⟨by omega, by omega⟩]
  · rw [if_neg h, if_neg (by omega)]
def putR (r : Roof) (c k : Nat) (x : Int) : Roof := { r with t := putG r.t c k x }
theorem roof_set {r : Roof} {c k o : Nat} {x : Int} (ho : o = 3 + c * 8 + k) (hc : c < 8) (hk : k < 8) : (roofC r).set o (.int .u8 x) = roofC (putR r c k x) := by
  subst ho
  unfold roofC putR
  rw [show 3 + c * 8 + k = (c * 8 + k) + 1 + 1 + 1 by omega]
  simp only [List.set_cons_succ]
  rw [grid_set rfl hc hk]
theorem putR_in {r : Roof} {c k : Nat} {x : Int} (h : r.In) (h1 : 0 ≤ x ∧ x ≤ 255) : (putR r c k x).In := ⟨h.w, h.h, h.s, fun c' k' => by
  show 0 ≤ putG r.t c k x c' k' ∧ _
  unfold putR putG
  dsimp only
  split
  · exact h1
  · exact h.t c' k'⟩
theorem vplace {ps : List Pl} {i o : Nat} (ho : o = i * 2) (h : i < ps.length) : D.v (.agg ⟨((placesC ps).drop o).take 2⟩) = plD (nthP ps i) := by
  rw [place_load ho h]; rfl
theorem place_get {ps : List Pl} : ∀ {i : Nat}, i < ps.length → nth (placesC ps) (i * 2) = some (.int .i8 (nthP ps i).1) ∧ nth (placesC ps) (i * 2 + 1) = some (.int .i8 (nthP ps i).2) := by
  induction ps with
  | nil => intro i h; simp at h
  | cons p ps ih =>
    intro i h
    cases i with
    | zero => exact ⟨rfl, rfl⟩
    | succ i =>
      rw [show (i + 1) * 2 = i * 2 + 1 + 1 by omega]
      exact ih (by simpa using h)
theorem placeN1 {ps : List Pl} {i o : Nat} (h : i < ps.length) (ho : o = i * 2) : nth (placesC ps) o = some (.int .i8 (nthP ps i).1) := by subst ho; exact (place_get h).1
theorem placeN2 {ps : List Pl} {i o : Nat} (h : i < ps.length) (ho : o = i * 2 + 1) : nth (placesC ps) o = some (.int .i8 (nthP ps i).2) := by subst ho; exact (place_get h).2
theorem placeA {ps : List Pl} {i : Nat} (h : i < ps.length) : nth (placesC ps) (0 + (i : Int).toNat * 2 + 0) = some (.int .i8 (nthP ps i).1) := placeN1 h (by simp)
theorem placeB {ps : List Pl} {i : Nat} (h : i < ps.length) : nth (placesC ps) (0 + (i : Int).toNat * 2 + 1) = some (.int .i8 (nthP ps i).2) := placeN2 h (by simp)
theorem placeA' {ps : List Pl} {i : Nat} (h : i < ps.length) : nth (placesC ps) ((i : Int).toNat * 2 + 0) = some (.int .i8 (nthP ps i).1) := placeN1 h (by simp)
theorem placeB' {ps : List Pl} {i : Nat} (h : i < ps.length) : nth (placesC ps) ((i : Int).toNat * 2 + 1) = some (.int .i8 (nthP ps i).2) := placeN2 h (by simp)
theorem vsplice {xs ys : List Value} {n : Nat} (h : xs.length = ys.length) (h2 : ys.length ≤ n) : D.v (.agg ⟨((splice xs 0 ys).drop 0).take n⟩) = D.v (.agg ⟨ys⟩) := by
  rw [splice_all h, List.drop_zero, take_full h2]
theorem cset {l l' : List Value} (h : l = l') : some (D.v (.agg ⟨l⟩)) = some (D.v (.agg ⟨l'⟩)) := by rw [h]
theorem csplice {xs ys : List Value} (h : xs.length = ys.length) : some (D.v (.agg ⟨splice xs 0 ys⟩)) = some (D.v (.agg ⟨ys⟩)) := by rw [splice_all h]
end Go.V
/- Contracts: the oldest tile, the reference's side. -/
set_option linter.unusedVariables false
set_option linter.unusedSimpArgs false
namespace Go.V
def ageP (a : Nat → Nat → Int) (q : Pl) : Int := a q.1 q.2
end Go.V
namespace Go.Proofs.Ytecjkbgepbefcaa
open Go.V
theorem l07Oldest_sat (r : Roof) (hr : r.In) (hb : (1 ≤ r.w ∧ r.w ≤ 8) ∧ (1 ≤ r.h ∧ r.h ≤ 8) ∧ r.s ≤ 1) (a : Nat → Nat → Int) (ha : AgesIn a) :
    Sat Try.prog 62 [.ref false (roofD r) 0, .ref false (gridD a) 0] (.tup [plD (oldP r a), .v (.int .i64 (ageP a (oldP r a)))]) := by
  have hall : Sat Try.prog 58 [.ref false (roofD r) 0] (placesD true (gridP r.w.toNat r.h.toNat)) := by rw [← allP_true]; exact l01All_sat r hr hb
  have hl := gridP_size hb
  have hps := gridP_in (w := r.w.toNat) (h := r.h.toNat) (by omega) (by omega)
  unfold oldP
  generalize gridP r.w.toNat r.h.toNat = ps at *
  refine sat_of_wp hMix tOk Try.func62 rfl rfl Try.ntmps62 rfl rfl Try.results62 (by kernel_rfl) ?_
  conv => whnf
  refine ⟨_, _, rfl, hall, ?_⟩
  conv => whnf
  refine ⟨⟨by omega, by omega⟩, ?_⟩
  conv => whnf
  refine ⟨by simp; omega, ?_⟩
  conv => whnf
  have e0 : List.take ti37.size (List.drop (0 + Int.toNat 0 * ti37.size) ({ toList := placesC ps } : Array Value).toList) = [.int .i8 (nthP ps 0).1, .int .i8 (nthP ps 0).2] :=
    place_load (i := 0) (by simp) (by omega)
  rw [e0]
  refine ⟨rfl, ?_⟩
  conv => whnf
  refine ⟨by simp, ?_⟩
  conv => whnf
  refine loop_rule (α := Nat) (fun i => [(1, .ref false (gridD a) 0), (4, .ptr (4, 0, 0) 0), (6, .slc true 2 (10, 0, 0) 0 ps.length), (7, .ptr (7, 0, 0) 0), (8, .v (.int .i64 ((i + 1 : Nat) : Int)))])
    (fun i => [((4, 0, 0), .v (.agg ⟨[.int .i8 0, .int .i8 0]⟩)), ((7, 0, 0), plD (bestL a ps i)), ((10, 0, 0), .v (.agg ⟨placesC ps⟩))]) (fun i => i + 1 ≤ ps.length) (fun i => ps.length - i) 0 (by omega)
    (sim_of (rn := [((4, 0, 0), (4, 0, 0)), ((7, 0, 0), (7, 0, 0)), ((10, 0, 0), (10, 0, 0))]) rfl ⟨rfl, rfl, rfl, rfl, rfl, trivial⟩ ⟨⟨_, _, rfl, rfl, rfl⟩, ⟨_, _, rfl, rfl, rfl⟩, ⟨_, _, rfl, rfl, rfl⟩, trivial⟩) ?_
  intro i hi
  conv => whnf
  have q2 := bestL_in (a := a) hps i (by omega)
  cases h4 : decide (((i + 1 : Nat) : Int) < (ps.length : Int))
  · have h8 : i = ps.length - 1 := by simp at h4; omega
    subst h8
    conv => whnf
    refine ⟨by simp, ?_⟩
    conv => whnf
    refine ⟨by simp, ?_⟩
    conv => whnf
    refine ⟨_, _, rfl, l07Age_sat a ha _ _ q2.1 q2.2, ?_⟩
    conv => whnf
    refine ⟨by simp, ?_⟩
    conv => whnf
    refine ⟨by simp, ?_⟩
    conv => whnf
    refine ⟨by simp [splice], ?_⟩
    exact ⟨rfl, _, rfl, rfl⟩
  conv => whnf
  have hlt : i + 1 < ps.length := by simp at h4; omega
  refine ⟨⟨by omega, by omega⟩, ?_⟩
  conv => whnf
  refine ⟨by simp; omega, ?_⟩
  conv => whnf
  have e1 : ((placesC ps).drop (0 + ((i + 1 : Nat) : Int).toNat * 2)).take 2 = [.int .i8 (nthP ps (i + 1)).1, .int .i8 (nthP ps (i + 1)).2] := place_load (by omega) hlt
  have q1 := hps (i + 1) hlt
  have cc : Sat Try.prog 59 [.ref false (gridD a) 0, .v (.agg ⟨((placesC ps).drop (0 + ((i + 1 : Nat) : Int).toNat * 2)).take 2⟩)] (.v (.int .i64 (a (nthP ps (i + 1)).1 (nthP ps (i + 1)).2))) := by
    rw [e1]; exact l07Age_sat a ha _ _ q1.1 q1.2
  refine ⟨_, _, rfl, cc, ?_⟩
  conv => whnf
  refine ⟨by simp, ?_⟩
  conv => whnf
  refine ⟨_, _, rfl, l07Age_sat a ha _ _ q2.1 q2.2, ?_⟩
  conv => whnf
  cases h5 : decide (a (nthP ps (i + 1)).1 (nthP ps (i + 1)).2 > a (bestL a ps i).1 (bestL a ps i).2)
  · have hb : bestL a ps (i + 1) = bestL a ps i := by
      have : ¬ a (nthP ps (i + 1)).1 (nthP ps (i + 1)).2 > a (bestL a ps i).1 (bestL a ps i).2 := by simpa using h5
      simp only [bestL, if_neg this]
    conv => whnf
    refine ⟨i + 1, by dsimp only; omega, by dsimp only; omega, sim_of (rn := [((4, 0, 0), (4, 0, 0)), ((7, 0, 0), (7, 0, 0)), ((10, 0, 0), (10, 0, 0))]) rfl ⟨rfl, rfl, rfl, rfl, succ64 (by omega), trivial⟩ ⟨⟨_, _, rfl, rfl, rfl⟩, ⟨_, _, rfl, rfl, ?_⟩, ⟨_, _, rfl, rfl, rfl⟩, trivial⟩⟩
    rw [hb]; rfl
  · have hb : bestL a ps (i + 1) = nthP ps (i + 1) := by
      have : a (nthP ps (i + 1)).1 (nthP ps (i + 1)).2 > a (bestL a ps i).1 (bestL a ps i).2 := by simpa using h5
      simp only [bestL, if_pos this]
    conv => whnf
    refine ⟨⟨by omega, by omega⟩, ?_⟩
    conv => whnf
    refine ⟨by simp; omega, ?_⟩
    conv => whnf
    refine ⟨by simp; omega, ?_⟩
    conv => whnf
    refine ⟨by simp; omega, ?_⟩
    conv => whnf
    refine ⟨i + 1, by dsimp only; omega, by dsimp only; omega, sim_of (rn := [((4, 0, 0), (4, 0, 0)), ((7, 0, 0), (7, 0, 0)), ((10, 0, 0), (10, 0, 0))]) rfl ⟨rfl, rfl, rfl, rfl, succ64 (by omega), trivial⟩ ⟨⟨_, _, rfl, rfl, rfl⟩, ⟨_, _, rfl, rfl, ?_⟩, ⟨_, _, rfl, rfl, rfl⟩, trivial⟩⟩
    rw [hb]
    show some (D.v (.agg ⟨splice [.int .i8 (bestL a ps i).1, .int .i8 (bestL a ps i).2] 0 (((placesC ps).drop (0 + ((i + 1 : Nat) : Int).toNat * 2)).take 2)⟩)) = some (D.v (.agg ⟨[.int .i8 (nthP ps (i + 1)).1, .int .i8 (nthP ps (i + 1)).2]⟩))
    rw [e1]; rfl
end Go.Proofs.Ytecjkbgepbefcaa
/- Contracts: OldestOf, both sides, and the law. -/
set_option linter.unusedVariables false
set_option linter.unusedSimpArgs false
namespace Go.V
def oldV (r : Roof) (a : Nat → Nat → Int) : D := if okA r a = true then .tup [plD (oldP r a), .v (.int .i64 (ageP a (oldP r a))), .v (.int .i64 0)] else .tup [plD (0, 0), .v (.int .i64 0), .v (.int .i64 1)]
theorem okA_bounds {r : Roof} {a : Nat → Nat → Int} (h : okA r a = true) : (1 ≤ r.w ∧ r.w ≤ 8) ∧ (1 ≤ r.h ∧ r.h ≤ 8) ∧ r.s ≤ 1 := by
  simp only [okA, Bool.and_eq_true] at h
  exact okR_bounds h.1
theorem oldP_in {r : Roof} (hb : (1 ≤ r.w ∧ r.w ≤ 8) ∧ (1 ≤ r.h ∧ r.h ≤ 8) ∧ r.s ≤ 1) (a : Nat → Nat → Int) : (oldP r a).1 < 8 ∧ (oldP r a).2 < 8 := by
  have hs := gridP_size hb
  exact bestL_in (gridP_in (by omega) (by omega)) _ (by omega)
end Go.V
namespace Go.Proofs.Ytecjkbgepbefcaa
open Go.V
theorem specOldestOf_sat (r : Roof) (hr : r.In) (a : Nat → Nat → Int) (ha : AgesIn a) : Sat Try.prog 14 [roofD r, gridD a] (oldV r a) := by
  refine sat_of_wp hMix tOk Try.func14 rfl rfl Try.ntmps14 rfl rfl Try.results14 (by kernel_rfl) ?_
  conv => whnf
  refine ⟨_, _, rfl, l07Ages_sat r hr a ha, ?_⟩
  conv => whnf
  cases h1 : okA r a
  · conv => whnf
    refine ⟨rfl, ?_⟩
    conv => whnf
    refine ⟨by decide, ?_⟩
    conv => whnf
    refine ⟨by decide, ?_⟩
    conv => whnf
    refine ⟨rfl, _, rfl, ?_⟩
    simp only [oldV, h1]; rfl
  conv => whnf
  refine ⟨_, _, rfl, l07Oldest_sat r hr (okA_bounds h1) a ha, ?_⟩
  conv => whnf
  refine ⟨by simp, ?_⟩
  conv => whnf
  refine ⟨by simp, ?_⟩
  conv => whnf
  refine ⟨by simp [splice], ?_⟩
  conv => whnf
  refine ⟨by simp [splice], ?_⟩
  conv => whnf
  refine ⟨by simp [splice], ?_⟩
  conv => whnf
  refine ⟨by simp [splice], ?_⟩
  conv => whnf
  refine ⟨rfl, _, rfl, ?_⟩
  simp only [oldV, h1, if_true]; rfl

theorem oldestOf_sat (r : Roof) (hr : r.In) (a : Nat → Nat → Int) (ha : AgesIn a) : Sat Try.prog 13 [roofD r, gridD a] (oldV r a) := by
  have e0 : ((roofC r).drop 0).take 67 = roofC r := take_drop0 (by simp [roofC])
  have e1 : ((grid a).drop 0).take 64 = grid a := take_drop0 (by simp)
  have cc : Sat Try.prog 60 [D.v (.agg ⟨((roofC r).drop 0).take 67⟩), D.v (.agg ⟨((grid a).drop 0).take 64⟩), .v (.bool true)] (.v (.int .i64 (askC r a true))) := by rw [e0, e1]; exact agesCode_sat r hr a ha true
  refine sat_of_wp hMix tOk Try.func13 rfl rfl Try.ntmps13 rfl rfl Try.results13 (by kernel_rfl) ?_
  conv => whnf
  refine ⟨by simp [roofC], ?_⟩
  conv => whnf
  refine ⟨by simp, ?_⟩
  conv => whnf
  refine ⟨_, _, rfl, cc, ?_⟩
  cases h1 : okA r a
  · rw [show askC r a true = 1 by simp [askC, h1]]
    conv => whnf
    refine ⟨rfl, ?_⟩
    conv => whnf
    refine ⟨by decide, ?_⟩
    conv => whnf
    refine ⟨by decide, ?_⟩
    conv => whnf
    refine ⟨rfl, _, rfl, ?_⟩
    simp only [oldV, h1]; rfl
  rw [show askC r a true = 0 by simp [askC, h1]]
  have hb := okA_bounds h1
  have hp := oldP_in hb a
  have co : Sat Try.prog 49 [D.v (.agg ⟨((roofC r).drop 0).take 67⟩), D.v (.agg ⟨((grid a).drop 0).take 64⟩)] (plD (oldP r a)) := by rw [e0, e1]; exact oldest_sat r hr hb a ha
  have ca : Sat Try.prog 48 [D.v (.agg ⟨((grid a).drop 0).take 64⟩), plD (oldP r a)] (.v (.int .i64 (ageP a (oldP r a)))) := by rw [e1]; exact at_sat a ha _ _ hp.1 hp.2
  conv => whnf
  refine ⟨by simp [roofC], ?_⟩
  conv => whnf
  refine ⟨by simp, ?_⟩
  conv => whnf
  refine ⟨_, _, rfl, co, ?_⟩
  conv => whnf
  refine ⟨by simp, ?_⟩
  conv => whnf
  refine ⟨by simp, ?_⟩
  conv => whnf
  refine ⟨by simp [splice], ?_⟩
  conv => whnf
  refine ⟨by simp, ?_⟩
  conv => whnf
  refine ⟨by simp [splice], ?_⟩
  conv => whnf
  refine ⟨_, _, rfl, ca, ?_⟩
  conv => whnf
  refine ⟨by simp [splice], ?_⟩
  conv => whnf
  refine ⟨by simp [splice], ?_⟩
  conv => whnf
  refine ⟨by simp [splice], ?_⟩
  conv => whnf
  refine ⟨rfl, _, rfl, ?_⟩
  simp only [oldV, h1, if_true]; rfl

end Go.Proofs.Ytecjkbgepbefcaa
/- Contracts: FirstBreak, both sides, and the law. -/
set_option linter.unusedVariables false
set_option linter.unusedSimpArgs false
namespace Go.V
def lifeOk (n : Int) : Bool := decide (1 ≤ n) && decide (n ≤ 100)
def max0 (d : Int) : Int := if 0 > d then 0 else d
def brkN (r : Roof) (a : Nat → Nat → Int) (life : Int) : Int := if askC r a (lifeOk life) = 0 then max0 (IntKind.i64.wrap (IntKind.i64.wrap (life + 1) - ageP a (oldP r a))) else 0
def brkV (r : Roof) (a : Nat → Nat → Int) (life : Int) : D := .tup [.v (.int .i64 (brkN r a life)), .v (.int .i64 (askC r a (lifeOk life)))]
theorem askC_ok {r : Roof} {a : Nat → Nat → Int} {is : Bool} (h : askC r a is = 0) : okA r a = true ∧ is = true := by
  unfold askC at h
  cases h1 : okA r a <;> cases is <;> simp [h1] at h ⊢
end Go.V
namespace Go.Proofs.Ytecjkbgepbefcaa
open Go.V
theorem l07Life_sat (n : Int) : Sat Try.prog 51 [.v (.int .i64 n)] (.v (.bool (lifeOk n))) := by
  refine sat_of_wp hMix tOk Try.func51 rfl rfl Try.ntmps51 rfl rfl Try.results51 (by kernel_rfl) ?_
  conv => whnf
  refine ⟨_, _, rfl, l00In_sat _ _ _, ?_⟩
  exact ⟨rfl, _, rfl, rfl⟩
theorem isLife_sat (n : Int) : Sat Try.prog 63 [.v (.int .i64 n)] (.v (.bool (lifeOk n))) := by
  refine sat_of_wp hMix tOk Try.func63 rfl rfl Try.ntmps63 rfl rfl Try.results63 (by kernel_rfl) ?_
  conv => whnf
  refine ⟨_, _, rfl, within64_sat _ _ _, ?_⟩
  exact ⟨rfl, _, rfl, rfl⟩
theorem firstBreak_sat (r : Roof) (hr : r.In) (a : Nat → Nat → Int) (ha : AgesIn a) (life : Int) : Sat Try.prog 15 [roofD r, gridD a, .v (.int .i64 life)] (brkV r a life) := by
  have e0 : ((roofC r).drop 0).take 67 = roofC r := take_drop0 (by simp [roofC])
  have e1 : ((grid a).drop 0).take 64 = grid a := take_drop0 (by simp)
  have cc : Sat Try.prog 60 [D.v (.agg ⟨((roofC r).drop 0).take 67⟩), D.v (.agg ⟨((grid a).drop 0).take 64⟩), .v (.bool (lifeOk life))] (.v (.int .i64 (askC r a (lifeOk life)))) := by rw [e0, e1]; exact agesCode_sat r hr a ha _
  refine sat_of_wp hMix tOk Try.func15 rfl rfl Try.ntmps15 rfl rfl Try.results15 (by kernel_rfl) ?_
  conv => whnf
  refine ⟨by simp [roofC], ?_⟩
  conv => whnf
  refine ⟨by simp, ?_⟩
  conv => whnf
  refine ⟨_, _, rfl, isLife_sat life, ?_⟩
  conv => whnf
  refine ⟨_, _, rfl, cc, ?_⟩
  conv => whnf
  cases h1 : (askC r a (lifeOk life) != 0)
  case true =>
    refine ⟨rfl, _, rfl, ?_⟩
    have : ¬ askC r a (lifeOk life) = 0 := by simpa using h1
    simp only [brkV, brkN, if_neg this]; rfl
  have hz : askC r a (lifeOk life) = 0 := by simpa using h1
  obtain ⟨hA, hL⟩ := askC_ok hz
  have hb := okA_bounds hA
  have hp := oldP_in hb a
  have co : Sat Try.prog 49 [D.v (.agg ⟨((roofC r).drop 0).take 67⟩), D.v (.agg ⟨((grid a).drop 0).take 64⟩)] (plD (oldP r a)) := by rw [e0, e1]; exact oldest_sat r hr hb a ha
  have ca : Sat Try.prog 48 [D.v (.agg ⟨((grid a).drop 0).take 64⟩), plD (oldP r a)] (.v (.int .i64 (ageP a (oldP r a)))) := by rw [e1]; exact at_sat a ha _ _ hp.1 hp.2
  conv => whnf
  refine ⟨by simp, ?_⟩
  conv => whnf
  refine ⟨by simp [roofC], ?_⟩
  conv => whnf
  refine ⟨by simp, ?_⟩
  conv => whnf
  refine ⟨_, _, rfl, co, ?_⟩
  conv => whnf
  refine ⟨_, _, rfl, ca, ?_⟩
  conv => whnf
  refine ⟨rfl, _, rfl, ?_⟩
  simp only [brkV, brkN, hz, if_true]; rfl

end Go.Proofs.Ytecjkbgepbefcaa
/- Contracts: equal grids and roofs; ages some years later, both sides, and the law. -/
set_option linter.unusedVariables false
set_option linter.unusedSimpArgs false
namespace Go.V
def ageOk0 (y : Int) : Bool := decide (0 ≤ y) && decide (y ≤ 100)
/-- The first i cells of a roof (row by row) with years more. -/
def addP (w i : Nat) (y : Int) (a : Nat → Nat → Int) : Nat → Nat → Int := fun c k => if k < w ∧ c * w + k < i then a c k + y else a c k
theorem addP_zero (w : Nat) (y : Int) (a : Nat → Nat → Int) : addP w 0 y a = a := by funext c k; simp [addP]
theorem div_cell {w c k i : Nat} (hk : k < w) : c * w + k = i ↔ c = i / w ∧ k = i % w := by
  have hw : 0 < w := by omega
  constructor
  · intro h
    subst h
    rw [Nat.mul_comm, Nat.mul_add_div hw, Nat.mul_add_mod, Nat.div_eq_of_lt hk, Nat.mod_eq_of_lt hk]
    exact ⟨rfl, rfl⟩
  · rintro ⟨rfl, rfl⟩
    have := Nat.div_add_mod i w
    rw [Nat.mul_comm] at this
    exact this
theorem addP_next {w i : Nat} (hw : 0 < w) (y : Int) (a : Nat → Nat → Int) : addP w (i + 1) y a = putG (addP w i y a) (i / w) (i % w) (a (i / w) (i % w) + y) := by
  funext c k
  show (if k < w ∧ c * w + k < i + 1 then a c k + y else a c k) = if c = i / w ∧ k = i % w then a (i / w) (i % w) + y else (if k < w ∧ c * w + k < i then a c k + y else a c k)
  by_cases hk : k < w
  · have hd := div_cell (w := w) (c := c) (k := k) (i := i) hk
    by_cases h : c * w + k = i
    · rw [if_pos (hd.1 h), if_pos ⟨hk, by omega⟩]
      obtain ⟨h1, h2⟩ := hd.1 h
      rw [h1, h2]
    · rw [if_neg (fun e => h (hd.2 e))]
      by_cases h2 : c * w + k < i
      · rw [if_pos ⟨hk, by omega⟩, if_pos ⟨hk, h2⟩]
      · rw [if_neg (by omega), if_neg (by omega)]
  · have h2 : ¬ (c = i / w ∧ k = i % w) := by
      rintro ⟨_, rfl⟩
      exact hk (Nat.mod_lt _ hw)
    rw [if_neg h2, if_neg (by omega), if_neg (by omega)]
theorem addP_at {w i : Nat} (hw : 0 < w) (y : Int) (a : Nat → Nat → Int) : addP w i y a (i / w) (i % w) = a (i / w) (i % w) := by
  have := (div_cell (w := w) (c := i / w) (k := i % w) (i := i) (Nat.mod_lt _ hw)).2 ⟨rfl, rfl⟩
  unfold addP
  rw [if_neg (by omega)]
theorem addP_in {w i : Nat} {y : Int} {a : Nat → Nat → Int} (ha : AgesIn a) (hy : 0 ≤ y) (hall : ∀ j, j < i → a (j / w) (j % w) + y ≤ 100) : AgesIn (addP w i y a) := ⟨fun c k => by
  unfold addP
  have := ha.t c k
  split
  · rename_i h
    have h2 := hall _ h.2
    obtain ⟨e1, e2⟩ := (div_cell (w := w) (c := c) (k := k) (i := c * w + k) h.1).1 rfl
    rw [← e1, ← e2] at h2
    omega
  · exact this⟩
def latK (r : Roof) (a : Nat → Nat → Int) (y : Int) : Int := if askC r a (ageOk0 y) = 0 then (if ageP a (oldP r a) + y > 100 then 3 else 0) else askC r a (ageOk0 y)
def latG (r : Roof) (a : Nat → Nat → Int) (y : Int) : Nat → Nat → Int := if latK r a y = 0 then addP r.w.toNat (r.h.toNat * r.w.toNat) y a else fun _ _ => 0
theorem oldP_max {r : Roof} (hb : (1 ≤ r.w ∧ r.w ≤ 8) ∧ (1 ≤ r.h ∧ r.h ≤ 8) ∧ r.s ≤ 1) (a : Nat → Nat → Int) {j : Nat} (hj : j < r.h.toNat * r.w.toNat) : a (j / r.w.toNat) (j % r.w.toNat) ≤ ageP a (oldP r a) := by
  have hl := gridP_len r.w.toNat r.h.toNat
  have := bestL_max a (gridP r.w.toNat r.h.toNat) ((gridP r.w.toNat r.h.toNat).length - 1) j (by omega)
  rw [gridP_nth hj] at this
  exact this
end Go.V
namespace Go.Proofs.Ytecjkbgepbefcaa
open Go.V
theorem isAge_sat (n : Int) : Sat Try.prog 72 [.v (.int .i64 n)] (.v (.bool (ageOk0 n))) := by
  refine sat_of_wp hMix tOk Try.func72 rfl rfl Try.ntmps72 rfl rfl Try.results72 (by kernel_rfl) ?_
  conv => whnf
  repeat (first | (refine And.intro (by first  | exact rfl | decide | omega | (simp [splice]; done) | (constructor <;> omega) | (simp [splice]; omega)) ?_; conv => whnf) | (refine optK_of (gridN (by omega) (by omega)) ?_; conv => whnf) | (refine optK_of (rowN (by omega)) ?_; conv => whnf) | (refine optK_of (roofN (by omega) (by omega)) ?_; conv => whnf) | (refine optK_of (placeA (by omega)) ?_; conv => whnf) | (refine optK_of (placeB (by omega)) ?_; conv => whnf))
  first | refine ⟨_, _, rfl, Sat.of_eq (within64_sat _ _ _) (by repeat (first | rfl | exact vfull (by first | (simp [splice]; done) | (simp [splice]; omega)) | exact rfull (by first | (simp [splice]; done) | (simp [splice]; omega)) | exact vplace (by simp; done) (by omega) | exact vrow (by simp; done) (by omega) | exact vtiles (by simp) | exact vsplice (by simp) (by simp) | refine ceq ?_ ?_ | refine Eq.trans (vsplice (by first | (simp; done) | (simp; omega)) (by first | (simp; done) | (simp; omega))) ?_)), ?_⟩ | refine .inl ⟨_, _, rfl, Sat.of_eq (within64_sat _ _ _) (by repeat (first | rfl | exact vfull (by first | (simp [splice]; done) | (simp [splice]; omega)) | exact rfull (by first | (simp [splice]; done) | (simp [splice]; omega)) | exact vplace (by simp; done) (by omega) | exact vrow (by simp; done) (by omega) | exact vtiles (by simp) | exact vsplice (by simp) (by simp) | refine ceq ?_ ?_ | refine Eq.trans (vsplice (by first | (simp; done) | (simp; omega)) (by first | (simp; done) | (simp; omega))) ?_)), ?_⟩
  conv => whnf
  repeat (first | (refine And.intro (by first  | exact rfl | decide | omega | (simp [splice]; done) | (constructor <;> omega) | (simp [splice]; omega)) ?_; conv => whnf) | (refine optK_of (gridN (by omega) (by omega)) ?_; conv => whnf) | (refine optK_of (rowN (by omega)) ?_; conv => whnf) | (refine optK_of (roofN (by omega) (by omega)) ?_; conv => whnf) | (refine optK_of (placeA (by omega)) ?_; conv => whnf) | (refine optK_of (placeB (by omega)) ?_; conv => whnf))
  first | refine ⟨rfl, _, rfl, ?_⟩ | refine ⟨_, rfl, ?_⟩
  rfl
theorem later_sat (r : Roof) (hr : r.In) (a : Nat → Nat → Int) (ha : AgesIn a) (y : Int) (hy0 : -9223372036854775808 ≤ y ∧ y ≤ 9223372036854775807) : Sat Try.prog 25 [roofD r, gridD a, .v (.int .i64 y)] (.tup [gridD (latG r a y), .v (.int .i64 (latK r a y))]) := by
  refine sat_of_wp hMix tOk Try.func25 rfl rfl Try.ntmps25 rfl rfl Try.results25 (by kernel_rfl) ?_
  conv => whnf
  repeat (first | (refine And.intro (by first  | exact rfl | decide | omega | (simp [splice]; done) | (constructor <;> omega) | (simp [splice]; omega)) ?_; conv => whnf) | (refine optK_of (gridN (by omega) (by omega)) ?_; conv => whnf) | (refine optK_of (rowN (by omega)) ?_; conv => whnf) | (refine optK_of (roofN (by omega) (by omega)) ?_; conv => whnf) | (refine optK_of (placeA (by omega)) ?_; conv => whnf) | (refine optK_of (placeB (by omega)) ?_; conv => whnf))
  first | refine ⟨_, _, rfl, Sat.of_eq (isAge_sat _) (by repeat (first | rfl | exact vfull (by first | (simp [splice]; done) | (simp [splice]; omega)) | exact rfull (by first | (simp [splice]; done) | (simp [splice]; omega)) | exact vplace (by simp; done) (by omega) | exact vrow (by simp; done) (by omega) | exact vtiles (by simp) | exact vsplice (by simp) (by simp) | refine ceq ?_ ?_ | refine Eq.trans (vsplice (by first | (simp; done) | (simp; omega)) (by first | (simp; done) | (simp; omega))) ?_)), ?_⟩ | refine .inl ⟨_, _, rfl, Sat.of_eq (isAge_sat _) (by repeat (first | rfl | exact vfull (by first | (simp [splice]; done) | (simp [splice]; omega)) | exact rfull (by first | (simp [splice]; done) | (simp [splice]; omega)) | exact vplace (by simp; done) (by omega) | exact vrow (by simp; done) (by omega) | exact vtiles (by simp) | exact vsplice (by simp) (by simp) | refine ceq ?_ ?_ | refine Eq.trans (vsplice (by first | (simp; done) | (simp; omega)) (by first | (simp; done) | (simp; omega))) ?_)), ?_⟩
  conv => whnf
  repeat (first | (refine And.intro (by first  | exact rfl | decide | omega | (simp [splice]; done) | (constructor <;> omega) | (simp [splice]; omega)) ?_; conv => whnf) | (refine optK_of (gridN (by omega) (by omega)) ?_; conv => whnf) | (refine optK_of (rowN (by omega)) ?_; conv => whnf) | (refine optK_of (roofN (by omega) (by omega)) ?_; conv => whnf) | (refine optK_of (placeA (by omega)) ?_; conv => whnf) | (refine optK_of (placeB (by omega)) ?_; conv => whnf))
  first | refine ⟨_, _, rfl, Sat.of_eq (agesCode_sat r hr a ha _) (by repeat (first | rfl | exact vfull (by first | (simp [splice]; done) | (simp [splice]; omega)) | exact rfull (by first | (simp [splice]; done) | (simp [splice]; omega)) | exact vplace (by simp; done) (by omega) | exact vrow (by simp; done) (by omega) | exact vtiles (by simp) | exact vsplice (by simp) (by simp) | refine ceq ?_ ?_ | refine Eq.trans (vsplice (by first | (simp; done) | (simp; omega)) (by first | (simp; done) | (simp; omega))) ?_)), ?_⟩ | refine .inl ⟨_, _, rfl, Sat.of_eq (agesCode_sat r hr a ha _) (by repeat (first | rfl | exact vfull (by first | (simp [splice]; done) | (simp [splice]; omega)) | exact rfull (by first | (simp [splice]; done) | (simp [splice]; omega)) | exact vplace (by simp; done) (by omega) | exact vrow (by simp; done) (by omega) | exact vtiles (by simp) | exact vsplice (by simp) (by simp) | refine ceq ?_ ?_ | refine Eq.trans (vsplice (by first | (simp; done) | (simp; omega)) (by first | (simp; done) | (simp; omega))) ?_)), ?_⟩
  conv => whnf
  repeat (first | (refine And.intro (by first  | exact rfl | decide | omega | (simp [splice]; done) | (constructor <;> omega) | (simp [splice]; omega)) ?_; conv => whnf) | (refine optK_of (gridN (by omega) (by omega)) ?_; conv => whnf) | (refine optK_of (rowN (by omega)) ?_; conv => whnf) | (refine optK_of (roofN (by omega) (by omega)) ?_; conv => whnf) | (refine optK_of (placeA (by omega)) ?_; conv => whnf) | (refine optK_of (placeB (by omega)) ?_; conv => whnf))
  refine bsplitT (fun h1 => ?_) (fun h1 => ?_)
  all_goals (conv => whnf)
  all_goals (repeat (first | (refine And.intro (by first  | exact rfl | decide | omega | (simp [splice]; done) | (constructor <;> omega) | (simp [splice]; omega)) ?_; conv => whnf) | (refine optK_of (gridN (by omega) (by omega)) ?_; conv => whnf) | (refine optK_of (rowN (by omega)) ?_; conv => whnf) | (refine optK_of (roofN (by omega) (by omega)) ?_; conv => whnf) | (refine optK_of (placeA (by omega)) ?_; conv => whnf) | (refine optK_of (placeB (by omega)) ?_; conv => whnf)))
  · first | refine ⟨rfl, _, rfl, ?_⟩ | refine ⟨_, rfl, ?_⟩
    skip
    have h1' : ¬ askC r a (ageOk0 y) = 0 := by simpa using h1
    have h2 : latK r a y = askC r a (ageOk0 y) := by simp only [latK, if_neg h1']
    rw [show latG r a y = fun _ _ => 0 by unfold latG; rw [h2, if_neg h1'], h2]
    unfold gridD; rw [grid_zero]; rfl
  have hz : askC r a (ageOk0 y) = 0 := by simpa using h1
  obtain ⟨hA, hL⟩ := askC_ok hz
  have hb := okA_bounds hA
  have hy : 0 ≤ y ∧ y ≤ 100 := by simpa [ageOk0] using hL
  have hp := oldP_in hb a
  first | refine ⟨_, _, rfl, Sat.of_eq (oldest_sat r hr hb a ha) (by repeat (first | rfl | exact vfull (by first | (simp [splice]; done) | (simp [splice]; omega)) | exact rfull (by first | (simp [splice]; done) | (simp [splice]; omega)) | exact vplace (by simp; done) (by omega) | exact vrow (by simp; done) (by omega) | exact vtiles (by simp) | exact vsplice (by simp) (by simp) | refine ceq ?_ ?_ | refine Eq.trans (vsplice (by first | (simp; done) | (simp; omega)) (by first | (simp; done) | (simp; omega))) ?_)), ?_⟩ | refine .inl ⟨_, _, rfl, Sat.of_eq (oldest_sat r hr hb a ha) (by repeat (first | rfl | exact vfull (by first | (simp [splice]; done) | (simp [splice]; omega)) | exact rfull (by first | (simp [splice]; done) | (simp [splice]; omega)) | exact vplace (by simp; done) (by omega) | exact vrow (by simp; done) (by omega) | exact vtiles (by simp) | exact vsplice (by simp) (by simp) | refine ceq ?_ ?_ | refine Eq.trans (vsplice (by first | (simp; done) | (simp; omega)) (by first | (simp; done) | (simp; omega))) ?_)), ?_⟩
  conv => whnf
  repeat (first | (refine And.intro (by first  | exact rfl | decide | omega | (simp [splice]; done) | (constructor <;> omega) | (simp [splice]; omega)) ?_; conv => whnf) | (refine optK_of (gridN (by omega) (by omega)) ?_; conv => whnf) | (refine optK_of (rowN (by omega)) ?_; conv => whnf) | (refine optK_of (roofN (by omega) (by omega)) ?_; conv => whnf) | (refine optK_of (placeA (by omega)) ?_; conv => whnf) | (refine optK_of (placeB (by omega)) ?_; conv => whnf))
  first | refine ⟨_, _, rfl, Sat.of_eq (at_sat a ha _ _ hp.1 hp.2) (by repeat (first | rfl | exact vfull (by first | (simp [splice]; done) | (simp [splice]; omega)) | exact rfull (by first | (simp [splice]; done) | (simp [splice]; omega)) | exact vplace (by simp; done) (by omega) | exact vrow (by simp; done) (by omega) | exact vtiles (by simp) | exact vsplice (by simp) (by simp) | refine ceq ?_ ?_ | refine Eq.trans (vsplice (by first | (simp; done) | (simp; omega)) (by first | (simp; done) | (simp; omega))) ?_)), ?_⟩ | refine .inl ⟨_, _, rfl, Sat.of_eq (at_sat a ha _ _ hp.1 hp.2) (by repeat (first | rfl | exact vfull (by first | (simp [splice]; done) | (simp [splice]; omega)) | exact rfull (by first | (simp [splice]; done) | (simp [splice]; omega)) | exact vplace (by simp; done) (by omega) | exact vrow (by simp; done) (by omega) | exact vtiles (by simp) | exact vsplice (by simp) (by simp) | refine ceq ?_ ?_ | refine Eq.trans (vsplice (by first | (simp; done) | (simp; omega)) (by first | (simp; done) | (simp; omega))) ?_)), ?_⟩
  conv => whnf
  repeat (first | (refine And.intro (by first  | exact rfl | decide | omega | (simp [splice]; done) | (constructor <;> omega) | (simp [splice]; omega)) ?_; conv => whnf) | (refine optK_of (gridN (by omega) (by omega)) ?_; conv => whnf) | (refine optK_of (rowN (by omega)) ?_; conv => whnf) | (refine optK_of (roofN (by omega) (by omega)) ?_; conv => whnf) | (refine optK_of (placeA (by omega)) ?_; conv => whnf) | (refine optK_of (placeB (by omega)) ?_; conv => whnf))
  have hap := ha.t (oldP r a).1 (oldP r a).2
  have e3 : IntKind.i64.wrap (a (oldP r a).1 (oldP r a).2 + y) = ageP a (oldP r a) + y := w64 (by omega) (by omega)
  rw [e3]
  refine bsplitT (fun h3 => ?_) (fun h3 => ?_)
  all_goals (conv => whnf)
  all_goals (repeat (first | (refine And.intro (by first  | exact rfl | decide | omega | (simp [splice]; done) | (constructor <;> omega) | (simp [splice]; omega)) ?_; conv => whnf) | (refine optK_of (gridN (by omega) (by omega)) ?_; conv => whnf) | (refine optK_of (rowN (by omega)) ?_; conv => whnf) | (refine optK_of (roofN (by omega) (by omega)) ?_; conv => whnf) | (refine optK_of (placeA (by omega)) ?_; conv => whnf) | (refine optK_of (placeB (by omega)) ?_; conv => whnf)))
  · first | refine ⟨rfl, _, rfl, ?_⟩ | refine ⟨_, rfl, ?_⟩
    skip
    have h3' : ageP a (oldP r a) + y > 100 := by simpa using h3
    have hk : latK r a y = 3 := by simp only [latK, hz, if_true, if_pos h3']
    rw [hk, show latG r a y = fun _ _ => 0 by unfold latG; rw [hk]; rfl]
    unfold gridD; rw [grid_zero]; rfl
  have h3' : ¬ ageP a (oldP r a) + y > 100 := by simpa using h3
  have hk : latK r a y = 0 := by simp only [latK, hz, if_true, if_neg h3']
  have hg : latG r a y = addP r.w.toNat (r.h.toNat * r.w.toNat) y a := by simp only [latG, hk, if_true]
  have hall : ∀ j, j < r.h.toNat * r.w.toNat → a (j / r.w.toNat) (j % r.w.toNat) + y ≤ 100 := fun j hj => by
    have := oldP_max hb a hj
    omega
  refine loop_rule (α := Nat) (fun c => [(2, .v (.int .i64 y)), (3, .ptr (3, 0, 0) 0), (4, .ptr (4, 0, 0) 0), (6, .ptr (6, 0, 0) 0), (30, .v (.int .i8 r.h)), (31, .v (.int .i8 c))]) (fun c => [((3, 0, 0), roofD r), ((4, 0, 0), gridD (addP r.w.toNat (c * r.w.toNat) y a)), ((6, 0, 0), .v (.agg ⟨List.replicate 64 (.int .u8 0)⟩))]) (fun c => c ≤ r.h.toNat) (fun c => 8 - c) (0) ?_ (sim_of (rn := [((3, 0, 0), (3, 0, 0)), ((4, 0, 0), (4, 0, 0)), ((6, 0, 0), (6, 0, 0))]) rfl ?_ ?_) ?_
  · first | omega | (dsimp only; omega) | ((repeat' apply And.intro) <;> omega) | (dsimp only; (repeat' apply And.intro) <;> omega) | trivial
  · ((repeat' (first | exact trivial | apply And.intro)) <;> (first | rfl | exact succ8 (by omega) | exact succ64 (by omega) | exact CapOk.fn (by assumption) _ _ | exact vintS (by omega) | exact vintS (by rw [w64 (by omega) (by omega)]; omega) | exact vintS (by rw [w8 (by omega) (by omega)]; omega) | exact vslcS (by omega) | exact vslcS (by simp)))
  · ((repeat' (first | exact trivial | apply And.intro)) <;> ((first | refine ⟨_, _, rfl, rfl, ?_⟩ ); first | rfl | (rw [Nat.zero_mul, addP_zero]; rfl)))
  intro c hc
  conv => whnf
  repeat (first | (refine And.intro (by first  | exact rfl | decide | omega | (simp [splice]; done) | (constructor <;> omega) | (simp [splice]; omega)) ?_; conv => whnf) | (refine optK_of (gridN (by omega) (by omega)) ?_; conv => whnf) | (refine optK_of (rowN (by omega)) ?_; conv => whnf) | (refine optK_of (roofN (by omega) (by omega)) ?_; conv => whnf) | (refine optK_of (placeA (by omega)) ?_; conv => whnf) | (refine optK_of (placeB (by omega)) ?_; conv => whnf))
  cases h4 : decide ((c : Int) < r.h)
  · have h8 : c = r.h.toNat := by simp at h4; omega
    conv => whnf
    repeat (first | (refine And.intro (by first  | exact rfl | decide | omega | (simp [splice]; done) | (constructor <;> omega) | (simp [splice]; omega)) ?_; conv => whnf) | (refine optK_of (gridN (by omega) (by omega)) ?_; conv => whnf) | (refine optK_of (rowN (by omega)) ?_; conv => whnf) | (refine optK_of (roofN (by omega) (by omega)) ?_; conv => whnf) | (refine optK_of (placeA (by omega)) ?_; conv => whnf) | (refine optK_of (placeB (by omega)) ?_; conv => whnf))
    first | refine ⟨rfl, _, rfl, ?_⟩ | refine ⟨_, rfl, ?_⟩
    skip
    rw [hk, hg, h8]
    refine congrArg (fun l => D.tup [.v (.agg ⟨l⟩), .v (.int .i64 0)]) (Eq.symm ?_)
    exact copied (n := 64) (xs := List.replicate 64 (.int .u8 0)) (ys := grid (addP r.w.toNat (r.h.toNat * r.w.toNat) y a)) (by simp) (by simp)
  have hch : (c : Int) < r.h := by simpa using h4
  conv => whnf
  repeat (first | (refine And.intro (by first  | exact rfl | decide | omega | (simp [splice]; done) | (constructor <;> omega) | (simp [splice]; omega)) ?_; conv => whnf) | (refine optK_of (gridN (by omega) (by omega)) ?_; conv => whnf) | (refine optK_of (rowN (by omega)) ?_; conv => whnf) | (refine optK_of (roofN (by omega) (by omega)) ?_; conv => whnf) | (refine optK_of (placeA (by omega)) ?_; conv => whnf) | (refine optK_of (placeB (by omega)) ?_; conv => whnf))
  refine loop_rule (α := Nat) (fun k => [(2, .v (.int .i64 y)), (3, .ptr (3, 0, 0) 0), (4, .ptr (4, 0, 0) 0), (6, .ptr (6, 0, 0) 0), (9, .v (.int .i8 c)), (30, .v (.int .i8 r.h)), (31, .v (.int .i8 c)), (35, .v (.int .i8 r.w)), (36, .v (.int .i8 k))]) (fun k => [((3, 0, 0), roofD r), ((4, 0, 0), gridD (addP r.w.toNat (c * r.w.toNat + k) y a)), ((6, 0, 0), .v (.agg ⟨List.replicate 64 (.int .u8 0)⟩))]) (fun k => k ≤ r.w.toNat) (fun k => 8 - k) (0) ?_ (sim_of (rn := [((3, 0, 0), (3, 0, 0)), ((4, 0, 0), (4, 0, 0)), ((6, 0, 0), (6, 0, 0))]) rfl ?_ ?_) ?_
  · first | omega | (dsimp only; omega) | ((repeat' apply And.intro) <;> omega) | (dsimp only; (repeat' apply And.intro) <;> omega) | trivial
  · ((repeat' (first | exact trivial | apply And.intro)) <;> (first | rfl | exact succ8 (by omega) | exact succ64 (by omega) | exact CapOk.fn (by assumption) _ _ | exact vintS (by omega) | exact vintS (by rw [w64 (by omega) (by omega)]; omega) | exact vintS (by rw [w8 (by omega) (by omega)]; omega) | exact vslcS (by omega) | exact vslcS (by simp)))
  · ((repeat' (first | exact trivial | apply And.intro)) <;> ((first | refine ⟨_, _, rfl, rfl, ?_⟩ ); rfl))
  intro k hk'
  conv => whnf
  repeat (first | (refine And.intro (by first  | exact rfl | decide | omega | (simp [splice]; done) | (constructor <;> omega) | (simp [splice]; omega)) ?_; conv => whnf) | (refine optK_of (gridN (by omega) (by omega)) ?_; conv => whnf) | (refine optK_of (rowN (by omega)) ?_; conv => whnf) | (refine optK_of (roofN (by omega) (by omega)) ?_; conv => whnf) | (refine optK_of (placeA (by omega)) ?_; conv => whnf) | (refine optK_of (placeB (by omega)) ?_; conv => whnf))
  cases h5 : decide ((k : Int) < r.w)
  · have hkw : k = r.w.toNat := by simp at h5; omega
    conv => whnf
    repeat (first | (refine And.intro (by first  | exact rfl | decide | omega | (simp [splice]; done) | (constructor <;> omega) | (simp [splice]; omega)) ?_; conv => whnf) | (refine optK_of (gridN (by omega) (by omega)) ?_; conv => whnf) | (refine optK_of (rowN (by omega)) ?_; conv => whnf) | (refine optK_of (roofN (by omega) (by omega)) ?_; conv => whnf) | (refine optK_of (placeA (by omega)) ?_; conv => whnf) | (refine optK_of (placeB (by omega)) ?_; conv => whnf))
    refine ⟨c + 1, ?_, ?_, sim_of (rn := [((3, 0, 0), (3, 0, 0)), ((4, 0, 0), (4, 0, 0)), ((6, 0, 0), (6, 0, 0))]) rfl ?_ ?_⟩
    · (dsimp only; omega)
    · first | omega | (dsimp only; omega) | ((repeat' apply And.intro) <;> omega) | (dsimp only; (repeat' apply And.intro) <;> omega) | trivial
    · ((repeat' (first | exact trivial | apply And.intro)) <;> (first | rfl | exact succ8 (by omega) | exact succ64 (by omega) | exact CapOk.fn (by assumption) _ _ | exact vintS (by omega) | exact vintS (by rw [w64 (by omega) (by omega)]; omega) | exact vintS (by rw [w8 (by omega) (by omega)]; omega) | exact vslcS (by omega) | exact vslcS (by simp)))
    · ((repeat' (first | exact trivial | apply And.intro)) <;> ((first | refine ⟨_, _, rfl, rfl, ?_⟩ ); first | rfl | (rw [hkw, Nat.succ_mul]; rfl)))
  have hkw : (k : Int) < r.w := by simpa using h5
  have hd := (div_cell (w := r.w.toNat) (c := c) (k := k) (i := c * r.w.toNat + k) (by omega)).1 rfl
  have hlt : c * r.w.toNat + k < r.h.toNat * r.w.toNat := by
    have : (c + 1) * r.w.toNat ≤ r.h.toNat * r.w.toNat := Nat.mul_le_mul_right _ (by omega)
    rw [Nat.succ_mul] at this
    omega
  have h6 := hall _ hlt
  have h7 := addP_at (w := r.w.toNat) (i := c * r.w.toNat + k) (by omega) y a
  rw [← hd.1, ← hd.2] at h6 h7
  have hac := ha.t c k
  conv => whnf
  repeat (first | (refine And.intro (by first  | exact rfl | decide | omega | (simp [splice]; done) | (constructor <;> omega) | (simp [splice]; omega)) ?_; conv => whnf) | (refine optK_of (gridN (by omega) (by omega)) ?_; conv => whnf) | (refine optK_of (rowN (by omega)) ?_; conv => whnf) | (refine optK_of (roofN (by omega) (by omega)) ?_; conv => whnf) | (refine optK_of (placeA (by omega)) ?_; conv => whnf) | (refine optK_of (placeB (by omega)) ?_; conv => whnf))
  have setA : (grid (addP r.w.toNat (c * r.w.toNat + k) y a)).set (0 + (c : Int).toNat * 8 + (k : Int).toNat * 1) (.int .u8 (IntKind.u8.wrap (addP r.w.toNat (c * r.w.toNat + k) y a c k + IntKind.u8.wrap y))) = grid (addP r.w.toNat (c * r.w.toNat + (k + 1)) y a) := by
    rw [h7, show IntKind.u8.wrap y = y from wu8 (by omega) (by omega), wu8 (by omega) (by omega), ← Nat.add_assoc, addP_next (by omega), ← hd.1, ← hd.2]
    exact grid_set (by simp) (by omega) (by omega)
  refine ⟨k + 1, ?_, ?_, sim_of (rn := [((3, 0, 0), (3, 0, 0)), ((4, 0, 0), (4, 0, 0)), ((6, 0, 0), (6, 0, 0))]) rfl ?_ ?_⟩
  · (dsimp only; omega)
  · first | omega | (dsimp only; omega) | ((repeat' apply And.intro) <;> omega) | (dsimp only; (repeat' apply And.intro) <;> omega) | trivial
  · ((repeat' (first | exact trivial | apply And.intro)) <;> (first | rfl | exact succ8 (by omega) | exact succ64 (by omega) | exact CapOk.fn (by assumption) _ _ | exact vintS (by omega) | exact vintS (by rw [w64 (by omega) (by omega)]; omega) | exact vintS (by rw [w8 (by omega) (by omega)]; omega) | exact vslcS (by omega) | exact vslcS (by simp)))
  · ((repeat' (first | exact trivial | apply And.intro)) <;> ((first | refine ⟨_, _, rfl, rfl, ?_⟩ ); first | rfl | (exact cset setA)))

end Go.Proofs.Ytecjkbgepbefcaa
