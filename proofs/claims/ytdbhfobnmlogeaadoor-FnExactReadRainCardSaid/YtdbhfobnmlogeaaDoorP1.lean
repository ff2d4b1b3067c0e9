import Derived.Test.YtdbhfobnmlogeaaDoorVT
import Derived.Test.YtdbhfobnmlogeaaDoorW6
import Derived.DeepKeys
import Derived.Test.YtdbhfobnmlogeaaDoorShelf
import Derived.Lib.SplitLaws
import Derived.WalkKit
import Derived.Lib.SmallJoins
set_option linter.unusedVariables false
set_option linter.unusedSimpArgs false
/- Plain words: tables of cells, roofs, places. -/
set_option linter.unusedVariables false
set_option linter.unusedSimpArgs false
namespace Go.V

/-- n cells by a rule. -/
@[irreducible] def tab (n : Nat) (f : Nat → Value) : List Value := (List.range n).map f
theorem tab_def (n : Nat) (f : Nat → Value) : tab n f = (List.range n).map f := by unfold tab; rfl
@[simp] theorem tab_length (n : Nat) (f : Nat → Value) : (tab n f).length = n := by rw [tab_def]; simp
theorem nth_tab {n : Nat} {f : Nat → Value} {i : Nat} (h : i < n) : nth (tab n f) i = some (f i) := by
  rw [nth_eq, tab_def]; simp [h]
theorem tab_get {n : Nat} {f : Nat → Value} {i : Nat} (h : i < n) : (tab n f)[i]? = some (f i) := by
  rw [tab_def]; simp [h]
theorem tab_none {n : Nat} {f : Nat → Value} {i : Nat} (h : n ≤ i) : (tab n f)[i]? = none := by
  rw [List.getElem?_eq_none_iff, tab_length]; exact h
theorem tab_congr {n : Nat} {f g : Nat → Value} (h : ∀ i, i < n → f i = g i) : tab n f = tab n g := by
  rw [tab_def, tab_def]
  apply List.map_congr_left
  intro i hi
  exact h i (by simpa using hi)
theorem tab_sub {n : Nat} {f : Nat → Value} {o m : Nat} (h : o + m ≤ n) : ((tab n f).drop o).take m = tab m fun i => f (o + i) := by
  apply List.ext_getElem?
  intro i
  rw [List.getElem?_take]
  by_cases hi : i < m
  · rw [if_pos hi, List.getElem?_drop, tab_get (by omega), tab_get hi]
  · rw [if_neg hi, tab_none (by omega)]
theorem tab_set {n : Nat} {f : Nat → Value} {i : Nat} {x : Value} : (tab n f).set i x = tab n fun j => if j = i then x else f j := by
  apply List.ext_getElem?
  intro j
  rw [List.getElem?_set]
  by_cases hj : j < n
  · rw [tab_get hj, tab_get hj]
    by_cases h : i = j
    · subst h; simp [hj]
    · simp [h, Ne.symm h]
  · rw [tab_none (by omega), tab_none (by omega)]
    simp only [tab_length]
    split
    · rw [if_neg (by omega)]
    · rfl
theorem tab_splice {n m o : Nat} {f g : Nat → Value} (h : o + m ≤ n) : splice (tab n f) o (tab m g) = tab n fun j => if o ≤ j ∧ j < o + m then g (j - o) else f j := by
  apply List.ext_getElem?
  intro j
  unfold splice
  simp only [tab_length]
  rw [List.append_assoc, List.getElem?_append, List.getElem?_append]
  simp only [List.length_take, tab_length, List.getElem?_take, List.getElem?_drop]
  have e : min o n = o := by omega
  rw [e]
  by_cases h1 : j < o
  · rw [if_pos h1, if_pos h1, tab_get (by omega), tab_get (by omega), if_neg (by omega)]
  · rw [if_neg h1]
    by_cases h2 : j - o < m
    · rw [if_pos h2, tab_get h2, tab_get (by omega), if_pos (by omega)]
    · rw [if_neg h2]
      by_cases h3 : j < n
      · rw [show o + m + (j - o - m) = j by omega, tab_get h3, tab_get h3, if_neg (by omega)]
      · rw [tab_none (by omega), tab_none (by omega)]

theorem w64 {n : Int} (h1 : -9223372036854775808 ≤ n) (h2 : n ≤ 9223372036854775807) : IntKind.i64.wrap n = n := by
  simp only [IntKind.wrap, IntKind.bits, IntKind.signed, Bool.true_and]
  split <;> rename_i h <;> simp at h <;> omega
theorem w8 {n : Int} (h1 : -128 ≤ n) (h2 : n ≤ 127) : IntKind.i8.wrap n = n := by
  simp only [IntKind.wrap, IntKind.bits, IntKind.signed, Bool.true_and]
  split <;> rename_i h <;> simp at h <;> omega
theorem w16 {n : Int} (h1 : -32768 ≤ n) (h2 : n ≤ 32767) : IntKind.i16.wrap n = n := by
  simp only [IntKind.wrap, IntKind.bits, IntKind.signed, Bool.true_and]
  split <;> rename_i h <;> simp at h <;> omega
theorem wu8 {n : Int} (h1 : 0 ≤ n) (h2 : n ≤ 255) : IntKind.u8.wrap n = n := by
  simp [IntKind.wrap, IntKind.bits, IntKind.signed]
  omega
abbrev i64 (n : Int) : D := .v (.int .i64 n)

structure Roof where
  w : Int
  h : Int
  s : Int
  t : Nat → Nat → Int

structure Roof.In (r : Roof) : Prop where
  w : -128 ≤ r.w ∧ r.w ≤ 127
  h : -128 ≤ r.h ∧ r.h ≤ 127
  s : 0 ≤ r.s ∧ r.s ≤ 255
  t : ∀ c k, 0 ≤ r.t c k ∧ r.t c k ≤ 255

def grid (t : Nat → Nat → Int) : List Value := tab 64 fun i => .int .u8 (t (i / 8) (i % 8))
def roofC (r : Roof) : List Value := .int .i8 r.w :: .int .i8 r.h :: .int .u8 r.s :: grid r.t
def roofD (r : Roof) : D := .v (.agg ⟨roofC r⟩)
def placeD (c k : Int) : D := .v (.agg ⟨[.int .i8 c, .int .i8 k]⟩)

theorem grid_get {t : Nat → Nat → Int} {c k : Nat} (hc : c < 8) (hk : k < 8) : nth (grid t) (c * 8 + k) = some (.int .u8 (t c k)) := by
  unfold grid
  rw [nth_tab (by omega)]
  have h1 : (c * 8 + k) / 8 = c := by omega
  have h2 : (c * 8 + k) % 8 = k := by omega
  rw [h1, h2]
theorem roof_get {r : Roof} {i c k : Nat} (hi : i = 3 + c * 8 + k) (hc : c < 8) (hk : k < 8) : nth (roofC r) i = some (.int .u8 (r.t c k)) := by
  subst hi
  rw [show 3 + c * 8 + k = (c * 8 + k) + 3 by omega]
  exact grid_get hc hk

end Go.V
/- Contracts: bounds, kinds, places. -/
set_option linter.unusedVariables false
set_option linter.unusedSimpArgs false
namespace Go.Proofs.YtdbhfobnmlogeaaDoor
open Go.V

theorem l00In_sat (n lo hi : Int) : Sat Tryd.prog 88 [.v (.int .i64 n), .v (.int .i64 lo), .v (.int .i64 hi)] (.v (.bool (decide (n ≥ lo) && decide (n ≤ hi)))) := by
  refine sat_of_wp hMix tOk Tryd.func88 rfl rfl Tryd.ntmps88 rfl rfl Tryd.results88 (by kernel_rfl) ?_
  conv => whnf
  cases h1 : decide (n ≥ lo)
  · exact ⟨rfl, _, rfl, rfl⟩
  · conv => whnf
    cases h2 : decide (n ≤ hi) <;> exact ⟨rfl, _, rfl, rfl⟩

theorem within8_sat (n lo hi : Int) : Sat Tryd.prog 115 [.v (.int .i8 n), .v (.int .i8 lo), .v (.int .i8 hi)] (.v (.bool (decide (lo ≤ n) && decide (n ≤ hi)))) := by
  refine sat_of_wp hMix tOk Tryd.func115 rfl rfl Tryd.ntmps115 rfl rfl Tryd.results115 (by kernel_rfl) ?_
  conv => whnf
  cases h1 : decide (lo ≤ n)
  · exact ⟨rfl, _, rfl, rfl⟩
  · conv => whnf
    cases h2 : decide (n ≤ hi) <;> exact ⟨rfl, _, rfl, rfl⟩

theorem l01Kind_sat (k : Int) : Sat Tryd.prog 112 [.v (.int .i64 k)] (.v (.bool (decide (k ≥ 0) && decide (k ≤ 3)))) := by
  refine sat_of_wp hMix tOk Tryd.func112 rfl rfl Tryd.ntmps112 rfl rfl Tryd.results112 (by kernel_rfl) ?_
  conv => whnf
  refine ⟨_, _, rfl, l00In_sat _ _ _, ?_⟩
  exact ⟨rfl, _, rfl, rfl⟩

theorem l01Is_sat (r : Roof) (hr : r.In) (c k : Int) (hc : -128 ≤ c ∧ c ≤ 127) (hk : -128 ≤ k ∧ k ≤ 127) :
    Sat Tryd.prog 113 [.ref false (roofD r) 0, placeD c k] (.v (.bool ((decide (c ≥ 0) && decide (c ≤ r.h - 1)) && (decide (k ≥ 0) && decide (k ≤ r.w - 1))))) := by
  have e1 : IntKind.i64.wrap c = c := w64 (by omega) (by omega)
  have e2 : IntKind.i64.wrap k = k := w64 (by omega) (by omega)
  have e3 : IntKind.i64.wrap r.h = r.h := by have := hr.h; exact w64 (by omega) (by omega)
  have e4 : IntKind.i64.wrap r.w = r.w := by have := hr.w; exact w64 (by omega) (by omega)
  have e5 : IntKind.i64.wrap (r.h - 1) = r.h - 1 := by have := hr.h; exact w64 (by omega) (by omega)
  have e6 : IntKind.i64.wrap (r.w - 1) = r.w - 1 := by have := hr.w; exact w64 (by omega) (by omega)
  refine sat_of_wp hMix tOk Tryd.func113 rfl rfl Tryd.ntmps113 rfl rfl Tryd.results113 (by kernel_rfl) ?_
  conv => whnf
  rw [e1, e3, e5]
  refine ⟨_, _, rfl, l00In_sat _ _ _, ?_⟩
  conv => whnf
  cases h1 : (decide (c ≥ 0) && decide (c ≤ r.h - 1))
  · exact ⟨rfl, _, rfl, rfl⟩
  · conv => whnf
    rw [e2, e4, e6]
    refine ⟨_, _, rfl, l00In_sat _ _ _, ?_⟩
    conv => whnf
    cases h2 : (decide (k ≥ 0) && decide (k ≤ r.w - 1)) <;> exact ⟨rfl, _, rfl, rfl⟩
end Go.Proofs.YtdbhfobnmlogeaaDoor
/- Contracts: valid roofs. -/
set_option linter.unusedVariables false
set_option linter.unusedSimpArgs false
namespace Go.V
def cellOk (r : Roof) (c k : Nat) : Bool := decide (r.t c k ≤ 3) && (decide (r.t c k = 0) || (decide ((c : Int) < r.h) && decide ((k : Int) < r.w)))
def okR (r : Roof) : Bool := (decide (r.w ≥ 1) && decide (r.w ≤ 8)) && (decide (r.h ≥ 1) && decide (r.h ≤ 8)) && decide (r.s ≤ 1) && (List.range 8).all fun c => (List.range 8).all fun k => cellOk r c k
end Go.V
namespace Go.Proofs.YtdbhfobnmlogeaaDoor
open Go.V

theorem l01Ok_sat (r : Roof) (hr : r.In) : Sat Tryd.prog 53 [.ref false (roofD r) 0] (.v (.bool (okR r))) := by
  have e3 : IntKind.i64.wrap r.h = r.h := by have := hr.h; exact w64 (by omega) (by omega)
  have e4 : IntKind.i64.wrap r.w = r.w := by have := hr.w; exact w64 (by omega) (by omega)
  refine sat_of_wp hMix tOk Tryd.func53 rfl rfl Tryd.ntmps53 rfl rfl Tryd.results53 (by kernel_rfl) ?_
  conv => whnf
  rw [e4]
  refine ⟨_, _, rfl, l00In_sat _ _ _, ?_⟩
  conv => whnf
  cases h1 : (decide (r.w ≥ 1) && decide (r.w ≤ 8))
  · exact ⟨rfl, _, rfl, by simp only [okR, h1, Bool.false_and]; rfl⟩
  conv => whnf
  rw [e3]
  refine ⟨_, _, rfl, l00In_sat _ _ _, ?_⟩
  conv => whnf
  cases h2 : (decide (r.h ≥ 1) && decide (r.h ≤ 8))
  · exact ⟨rfl, _, rfl, by simp only [okR, h1, h2, Bool.false_and, Bool.and_false]; rfl⟩
  conv => whnf
  cases h3 : (decide (r.s > 1))
  case true => exact ⟨rfl, _, rfl, by
    have : decide (r.s ≤ 1) = false := by simp at h3 ⊢; omega
    simp only [okR, h1, h2, this, Bool.false_and, Bool.and_false]; rfl⟩
  have h3' : decide (r.s ≤ 1) = true := by simp at h3 ⊢; omega
  conv => whnf
  refine loop_rule (α := Nat) (fun c => [(0, .ref false (roofD r) 0), (3, .v (.int .i8 c))]) (fun _ => []) (fun c => c ≤ 8 ∧ ∀ c', c' < c → ∀ k, k < 8 → cellOk r c' k = true) (fun c => 8 - c) 0 ⟨by omega, by omega⟩ (sim_of (rn := []) rfl ⟨rfl, rfl, trivial⟩ trivial) ?_
  rintro c ⟨hc, hall⟩
  conv => whnf
  cases h4 : decide ((c : Int) < 8)
  · conv => whnf
    refine ⟨rfl, _, rfl, ?_⟩
    have hc8 : c = 8 := by simp at h4; omega
    subst hc8
    have : (List.range 8).all (fun c => (List.range 8).all fun k => cellOk r c k) = true := by
      simp only [List.all_eq_true, List.mem_range]
      exact hall
    simp only [okR, h1, h2, h3', this, Bool.and_self]; rfl
  conv => whnf
  have hc8 : c < 8 := by simp at h4; omega
  refine loop_rule (α := Nat) (fun k => [(0, .ref false (roofD r) 0), (3, .v (.int .i8 c)), (4, .v (.int .i8 k))]) (fun _ => []) (fun k => k ≤ 8 ∧ ∀ k', k' < k → cellOk r c k' = true) (fun k => 8 - k) 0 ⟨by omega, by omega⟩ (sim_of (rn := []) rfl ⟨rfl, rfl, rfl, trivial⟩ trivial) ?_
  rintro k ⟨hk, hrow⟩
  conv => whnf
  cases h5 : decide ((k : Int) < 8)
  · conv => whnf
    refine ⟨c + 1, by dsimp only; omega, ⟨by omega, ?_⟩, sim_of (rn := []) rfl ⟨rfl, ?_, trivial⟩ trivial⟩
    · intro c' hc' k' hk'
      by_cases h : c' = c
      · subst h; exact hrow k' (by simp at h5; omega)
      · exact hall c' (by omega) k' hk'
    · show some _ = some _
      congr 1
      exact vint (by rw [w8 (by omega) (by omega)]; omega)
  conv => whnf
  have hk8 : k < 8 := by simp at h5; omega
  refine ⟨⟨by omega, by omega⟩, ?_⟩
  conv => whnf
  refine ⟨⟨by omega, by omega⟩, ?_⟩
  conv => whnf
  have ht := hr.t c k
  have e5 : IntKind.i64.wrap (r.t c k) = r.t c k := w64 (by omega) (by omega)
  have g1 : nth (roofC r) (0 + 3 + (c : Int).toNat * 8 + (k : Int).toNat * 1) = some (.int .u8 (r.t c k)) := roof_get (by omega) hc8 hk8
  refine optK_of g1 ?_
  conv => whnf
  rw [e5]
  refine ⟨_, _, rfl, l01Kind_sat _, ?_⟩
  conv => whnf
  have hno : ∀ b, cellOk r c k = b → (b = false → okR r = false) ∧ (b = true → ∀ k', k' < k + 1 → cellOk r c k' = true) := by
    rintro b rfl
    refine ⟨fun h => ?_, fun h k' hk' => ?_⟩
    · have : (List.range 8).all (fun c => (List.range 8).all fun k => cellOk r c k) = false := by
        rw [List.all_eq_false]
        refine ⟨c, by simpa using hc8, ?_⟩
        rw [Bool.not_eq_true, List.all_eq_false]
        exact ⟨k, by simpa using hk8, by simp [h]⟩
      simp only [okR, this, Bool.and_false]
    · by_cases hkk : k' = k
      · subst hkk; exact h
      · exact hrow k' (by omega)
  have hk3 : decide (r.t c k ≥ 0) = true := by simp; omega
  cases h6 : (decide (r.t c k ≥ 0) && decide (r.t c k ≤ 3))
  · have hcell : cellOk r c k = false := by
      rw [hk3, Bool.true_and] at h6
      simp only [cellOk, h6, Bool.false_and]
    conv => whnf
    refine ⟨rfl, _, rfl, ?_⟩
    rw [(hno _ hcell).1 rfl]; rfl
  conv => whnf
  refine ⟨_, _, rfl, l01Is_sat r hr c k ⟨by omega, by omega⟩ ⟨by omega, by omega⟩, ?_⟩
  conv => whnf
  have hk3' : decide (r.t c k ≤ 3) = true := by rw [hk3, Bool.true_and] at h6; exact h6
  have hin : (decide ((c : Int) ≥ 0) && decide ((c : Int) ≤ r.h - 1) && (decide ((k : Int) ≥ 0) && decide ((k : Int) ≤ r.w - 1))) = (decide ((c : Int) < r.h) && decide ((k : Int) < r.w)) := by
    rw [Bool.eq_iff_iff]; simp; omega
  rw [hin]
  have hkk : some (D.v (Value.int .i8 ((k + 1 : Nat) : Int))) = some (D.v (.int .i8 (IntKind.i8.wrap (k + 1)))) := by
    congr 1; exact vint (by rw [w8 (by omega) (by omega)]; omega)
  cases h7 : (decide ((c : Int) < r.h) && decide ((k : Int) < r.w))
  · conv => whnf
    have g2 : nth (roofC r) (0 + 3 + (c : Int).toNat * 8 + (k : Int).toNat * 1) = some (.int .u8 (r.t c k)) := roof_get (by omega) hc8 hk8
    refine ⟨⟨by omega, by omega⟩, ?_⟩
    conv => whnf
    refine ⟨⟨by omega, by omega⟩, ?_⟩
    conv => whnf
    refine optK_of g2 ?_
    conv => whnf
    cases h8 : (r.t c k != 0)
    · conv => whnf
      have hcell : cellOk r c k = true := by
        have : decide (r.t c k = 0) = true := by simpa using h8
        simp only [cellOk, hk3', this, Bool.true_or, Bool.and_self]
      exact ⟨k + 1, by dsimp only; omega, ⟨by omega, (hno _ hcell).2 rfl⟩, sim_of (rn := []) rfl ⟨rfl, rfl, hkk, trivial⟩ trivial⟩
    · conv => whnf
      have hcell : cellOk r c k = false := by
        have : decide (r.t c k = 0) = false := by simpa using h8
        simp only [cellOk, h7, this, Bool.or_self, Bool.and_false]
      refine ⟨rfl, _, rfl, ?_⟩
      rw [(hno _ hcell).1 rfl]; rfl
  · conv => whnf
    have hcell : cellOk r c k = true := by
      simp only [cellOk, h7, hk3', Bool.or_true, Bool.and_self]
    exact ⟨k + 1, by dsimp only; omega, ⟨by omega, (hno _ hcell).2 rfl⟩, sim_of (rn := []) rfl ⟨rfl, rfl, hkk, trivial⟩ trivial⟩
end Go.Proofs.YtdbhfobnmlogeaaDoor
/- Contracts: the laws' own copies of rows, tables, roofs. -/
set_option linter.unusedVariables false
set_option linter.unusedSimpArgs false
namespace Go.V
def row8 (f : Nat → Int) : List Value := tab 8 fun k => .int .u8 (f k)
def row8D (f : Nat → Int) : D := .v (.agg ⟨row8 f⟩)
def gridD (t : Nat → Nat → Int) : D := .v (.agg ⟨grid t⟩)
def partV (n : Nat) (f : Nat → Int) : Nat → Value := fun k => .int .u8 (if k < n then f k else 0)
theorem part_zero (m : Nat) (f : Nat → Int) : tab m (partV 0 f) = List.replicate m (.int .u8 0) := by
  apply List.ext_getElem?
  intro i
  rw [List.getElem?_replicate]
  by_cases h : i < m
  · rw [tab_get h, if_pos h]; simp [partV]
  · rw [tab_none (by omega), if_neg h]
theorem part_set {m n : Nat} {f : Nat → Int} (h : n < m) : (tab m (partV n f)).set n (.int .u8 (f n)) = tab m (partV (n + 1) f) := by
  rw [tab_set]
  apply tab_congr
  intro i hi
  simp only [partV]
  by_cases h1 : i = n
  · subst h1; simp
  · rw [if_neg h1]
    by_cases h2 : i < n
    · rw [if_pos h2, if_pos (by omega)]
    · rw [if_neg h2, if_neg (by omega)]
theorem part_all {m : Nat} {f : Nat → Int} : tab m (partV m f) = tab m fun k => .int .u8 (f k) := by
  apply tab_congr
  intro i hi
  simp only [partV, if_pos hi]
theorem row8_get {f : Nat → Int} {i k : Nat} (hi : i = k) (hk : k < 8) : nth (row8 f) i = some (.int .u8 (f k)) := by
  subst hi
  exact nth_tab hk
@[simp] theorem row8_len (f : Nat → Int) : (row8 f).length = 8 := by unfold row8; simp
@[simp] theorem grid_len (t : Nat → Nat → Int) : (grid t).length = 64 := by unfold grid; simp
/-- The cells of a table as one row. -/
def flat (t : Nat → Nat → Int) (i : Nat) : Int := t (i / 8) (i % 8)
theorem grid_row {t : Nat → Nat → Int} {c o : Nat} (ho : o = c * 8) (hc : c < 8) : ((grid t).drop o).take 8 = row8 (t c) := by
  subst ho
  unfold grid
  rw [tab_sub (by omega)]
  apply tab_congr
  intro i hi
  rw [show (c * 8 + i) / 8 = c by omega, show (c * 8 + i) % 8 = i by omega]
theorem grid_put {t : Nat → Nat → Int} {c o : Nat} (ho : o = c * 8) (hc : c < 8) : splice (tab 64 (partV (c * 8) (flat t))) o (row8 (t c)) = tab 64 (partV ((c + 1) * 8) (flat t)) := by
  subst ho
  unfold row8
  rw [tab_splice (by omega)]
  apply tab_congr
  intro i hi
  simp only [partV, flat]
  by_cases h : c * 8 ≤ i ∧ i < c * 8 + 8
  · rw [if_pos h, if_pos (by omega), show i / 8 = c by omega, show i - c * 8 = i % 8 by omega]
  · rw [if_neg h]
    by_cases h2 : i < c * 8
    · rw [if_pos h2, if_pos (by omega)]
    · rw [if_neg h2, if_neg (by omega)]
theorem roof_grid (r : Roof) : ((roofC r).drop (0 + 3)).take 64 = grid r.t := by
  show (grid r.t).take 64 = grid r.t
  rw [List.take_of_length_le (by simp)]
theorem splice_all {α : Type} {xs ys : List α} (h : xs.length = ys.length) : splice xs 0 ys = ys := by
  unfold splice; simp [← h]
theorem take_drop0 {α : Type} {xs : List α} {n : Nat} (h : xs.length = n) : (xs.drop 0).take n = xs := by
  subst h; simp
/-- What a function of the laws hands back: the block that was made, copied to the result's. -/
theorem copied {xs ys : List Value} {n : Nat} (hx : xs.length = n) (hy : ys.length = n) : ((splice xs 0 ((ys.drop 0).take n)).drop 0).take n = ys := by
  rw [take_drop0 hy, splice_all (by omega), take_drop0 hy]
end Go.V
namespace Go.Proofs.YtdbhfobnmlogeaaDoor
open Go.V

theorem toByteA8_sat (f : Nat → Int) : Sat Tryd.prog 114 [row8D f] (row8D f) := by
  refine sat_of_wp hMix tOk Tryd.func114 rfl rfl Tryd.ntmps114 rfl rfl Tryd.results114 (by kernel_rfl) ?_
  conv => whnf
  refine loop_rule (α := Nat) (fun i => [(1, .ptr (1, 0, 0) 0), (2, .ptr (2, 0, 0) 0), (3, .ptr (3, 0, 0) 0), (4, .v (.int .i64 i))])
    (fun i => [((1, 0, 0), row8D f), ((2, 0, 0), .v (.agg ⟨tab 8 (partV 0 f)⟩)), ((3, 0, 0), .v (.agg ⟨tab 8 (partV i f)⟩))]) (fun i => i ≤ 8) (fun i => 8 - i) 0 (Nat.zero_le _)
    (sim_of (rn := [((1, 0, 0), (1, 0, 0)), ((2, 0, 0), (2, 0, 0)), ((3, 0, 0), (3, 0, 0))]) rfl ⟨rfl, rfl, rfl, rfl, trivial⟩ ⟨⟨_, _, rfl, rfl, rfl⟩, ⟨_, _, rfl, rfl, ?_⟩, ⟨_, _, rfl, rfl, ?_⟩, trivial⟩) ?_
  · rw [part_zero]; rfl
  · rw [part_zero]; rfl
  intro i hi
  conv => whnf
  cases h4 : decide ((i : Int) < 8)
  · have h8 : i = 8 := by simp at h4; omega
    subst h8
    conv => whnf
    refine ⟨by simp, ?_⟩
    conv => whnf
    refine ⟨by simp, ?_⟩
    conv => whnf
    refine ⟨by simp, ?_⟩
    refine ⟨by simp [splice], ?_⟩
    conv => whnf
    refine ⟨rfl, _, rfl, ?_⟩
    show D.v (.agg ⟨row8 f⟩) = D.v (.agg ⟨_⟩)
    refine congrArg (fun l => D.v (.agg ⟨l⟩)) (Eq.symm ?_)
    refine (copied (n := 8) (xs := tab 8 (partV 0 f)) (ys := tab 8 (partV 8 f)) (tab_length _ _) (tab_length _ _)).trans ?_
    rw [part_all]; rfl
  conv => whnf
  have h8 : i < 8 := by simp at h4; omega
  refine ⟨⟨by omega, by omega⟩, ?_⟩
  conv => whnf
  refine optK_of (row8_get (by simp) h8) ?_
  conv => whnf
  refine ⟨⟨by omega, by omega⟩, ?_⟩
  conv => whnf
  refine ⟨by simp; omega, ?_⟩
  conv => whnf
  have hkk : some (D.v (Value.int .i64 ((i + 1 : Nat) : Int))) = some (D.v (.int .i64 (IntKind.i64.wrap (i + 1)))) := by
    congr 1; exact vint (by rw [w64 (by omega) (by omega)]; omega)
  refine ⟨i + 1, by dsimp only; omega, by dsimp only; omega, sim_of (rn := [((1, 0, 0), (1, 0, 0)), ((2, 0, 0), (2, 0, 0)), ((3, 0, 0), (3, 0, 0))]) rfl ⟨rfl, rfl, rfl, hkk, trivial⟩ ⟨⟨_, _, rfl, rfl, rfl⟩, ⟨_, _, rfl, rfl, rfl⟩, ⟨_, _, rfl, rfl, ?_⟩, trivial⟩⟩
  show some (D.v (.agg ⟨(tab 8 (partV i f)).set (0 + (i : Int).toNat * 1) _⟩)) = _
  rw [show 0 + (i : Int).toNat * 1 = i by omega, part_set h8]

theorem toByteA8A8_sat (t : Nat → Nat → Int) : Sat Tryd.prog 55 [gridD t] (gridD t) := by
  refine sat_of_wp hMix tOk Tryd.func55 rfl rfl Tryd.ntmps55 rfl rfl Tryd.results55 (by kernel_rfl) ?_
  conv => whnf
  refine loop_rule (α := Nat) (fun i => [(1, .ptr (1, 0, 0) 0), (2, .ptr (2, 0, 0) 0), (3, .ptr (3, 0, 0) 0), (4, .v (.int .i64 i))])
    (fun i => [((1, 0, 0), gridD t), ((2, 0, 0), .v (.agg ⟨tab 64 (partV 0 (flat t))⟩)), ((3, 0, 0), .v (.agg ⟨tab 64 (partV (i * 8) (flat t))⟩))]) (fun i => i ≤ 8) (fun i => 8 - i) 0 (Nat.zero_le _)
    (sim_of (rn := [((1, 0, 0), (1, 0, 0)), ((2, 0, 0), (2, 0, 0)), ((3, 0, 0), (3, 0, 0))]) rfl ⟨rfl, rfl, rfl, rfl, trivial⟩ ⟨⟨_, _, rfl, rfl, rfl⟩, ⟨_, _, rfl, rfl, ?_⟩, ⟨_, _, rfl, rfl, ?_⟩, trivial⟩) ?_
  · rw [part_zero]; rfl
  · rw [Nat.zero_mul, part_zero]; rfl
  intro i hi
  conv => whnf
  cases h4 : decide ((i : Int) < 8)
  · have h8 : i = 8 := by simp at h4; omega
    subst h8
    conv => whnf
    refine ⟨by simp, ?_⟩
    conv => whnf
    refine ⟨by simp, ?_⟩
    conv => whnf
    refine ⟨by simp, ?_⟩
    conv => whnf
    refine ⟨by simp [splice], ?_⟩
    conv => whnf
    refine ⟨rfl, _, rfl, ?_⟩
    show D.v (.agg ⟨grid t⟩) = D.v (.agg ⟨_⟩)
    refine congrArg (fun l => D.v (.agg ⟨l⟩)) (Eq.symm ?_)
    refine (copied (n := 64) (xs := tab 64 (partV 0 (flat t))) (ys := tab 64 (partV (8 * 8) (flat t))) (tab_length _ _) (tab_length _ _)).trans ?_
    exact part_all
  conv => whnf
  have h8 : i < 8 := by simp at h4; omega
  refine ⟨⟨by omega, by omega⟩, ?_⟩
  conv => whnf
  refine ⟨by simp; omega, ?_⟩
  conv => whnf
  have e : ((grid t).drop (0 + (i : Int).toNat * 8)).take 8 = row8 (t i) := grid_row (by omega) h8
  have e' : Sat Tryd.prog 114 [D.v (.agg ⟨((grid t).drop (0 + (i : Int).toNat * 8)).take 8⟩)] (row8D (t i)) := by rw [e]; exact toByteA8_sat (t i)
  refine ⟨_, _, rfl, e', ?_⟩
  conv => whnf
  refine ⟨⟨by omega, by omega⟩, ?_⟩
  conv => whnf
  refine ⟨by simp [row8D], ?_⟩
  conv => whnf
  refine ⟨by simp [row8D]; omega, ?_⟩
  conv => whnf
  have hkk : some (D.v (Value.int .i64 ((i + 1 : Nat) : Int))) = some (D.v (.int .i64 (IntKind.i64.wrap (i + 1)))) := by
    congr 1; exact vint (by rw [w64 (by omega) (by omega)]; omega)
  refine ⟨i + 1, by dsimp only; omega, by dsimp only; omega, sim_of (rn := [((1, 0, 0), (1, 0, 0)), ((2, 0, 0), (2, 0, 0)), ((3, 0, 0), (3, 0, 0))]) rfl ⟨rfl, rfl, rfl, hkk, trivial⟩ ⟨⟨_, _, rfl, rfl, rfl⟩, ⟨_, _, rfl, rfl, rfl⟩, ⟨_, _, rfl, rfl, ?_⟩, trivial⟩⟩
  show some (D.v (.agg ⟨splice (tab 64 (partV (i * 8) (flat t))) (0 + (i : Int).toNat * 8) (row8 (t i))⟩)) = _
  rw [show 0 + (i : Int).toNat * 8 = i * 8 by omega, grid_put rfl h8]

theorem toRoof_sat (r : Roof) : Sat Tryd.prog 12 [roofD r] (roofD r) := by
  refine sat_of_wp hMix tOk Tryd.func12 rfl rfl Tryd.ntmps12 rfl rfl Tryd.results12 (by kernel_rfl) ?_
  conv => whnf
  refine ⟨by simp, ?_⟩
  conv => whnf
  refine ⟨by simp, ?_⟩
  conv => whnf
  refine ⟨by simp, ?_⟩
  conv => whnf
  refine ⟨by simp [roofC], ?_⟩
  conv => whnf
  have e : ((roofC r).drop (0 + 3)).take 64 = grid r.t := roof_grid r
  have e' : Sat Tryd.prog 55 [D.v (.agg ⟨((roofC r).drop (0 + 3)).take 64⟩)] (gridD r.t) := by rw [e]; exact toByteA8A8_sat r.t
  refine ⟨_, _, rfl, e', ?_⟩
  conv => whnf
  refine ⟨by simp [gridD], ?_⟩
  conv => whnf
  refine ⟨by simp [gridD], ?_⟩
  conv => whnf
  refine ⟨by simp [gridD, splice], ?_⟩
  conv => whnf
  refine ⟨by simp [gridD, splice], ?_⟩
  conv => whnf
  refine ⟨by simp [gridD, splice], ?_⟩
  conv => whnf
  refine ⟨by simp [gridD, splice], ?_⟩
  conv => whnf
  refine ⟨rfl, _, rfl, ?_⟩
  show D.v (.agg ⟨roofC r⟩) = D.v (.agg ⟨_⟩)
  refine congrArg (fun l => D.v (.agg ⟨l⟩)) (Eq.symm ?_)
  have hz : splice (.int .i8 r.w :: .int .i8 r.h :: .int .u8 r.s :: List.replicate 64 (.int .u8 0)) (0 + 3) (grid r.t) = roofC r := by simp [splice, roofC]
  have hl : (splice (.int .i8 r.w :: .int .i8 r.h :: .int .u8 r.s :: List.replicate 64 (.int .u8 0)) (0 + 3) (grid r.t)).length = 67 := by rw [hz]; simp [roofC]
  exact (copied (n := 67) (xs := [Value.int .i8 0, Value.int .i8 0] ++ List.replicate 65 (Value.int .u8 0)) (ys := splice (.int .i8 r.w :: .int .i8 r.h :: .int .u8 r.s :: List.replicate 64 (.int .u8 0)) (0 + 3) (grid r.t)) (by simp) hl).trans hz

end Go.Proofs.YtdbhfobnmlogeaaDoor
/- Contracts: valid roofs and ages, both sides. -/
set_option linter.unusedVariables false
set_option linter.unusedSimpArgs false
namespace Go.V
def all8 (p : Nat → Nat → Bool) : Bool := (List.range 8).all fun c => (List.range 8).all fun k => p c k
theorem all8_true {p : Nat → Nat → Bool} (h : ∀ c, c < 8 → ∀ k, k < 8 → p c k = true) : all8 p = true := by
  simp only [all8, List.all_eq_true, List.mem_range]
  exact h
theorem all8_false {p : Nat → Nat → Bool} {c k : Nat} (hc : c < 8) (hk : k < 8) (h : p c k = false) : all8 p = false := by
  unfold all8
  rw [List.all_eq_false]
  refine ⟨c, by simpa using hc, ?_⟩
  rw [Bool.not_eq_true, List.all_eq_false]
  exact ⟨k, by simpa using hk, by simp [h]⟩
theorem okR_def (r : Roof) : okR r = (((decide (r.w ≥ 1) && decide (r.w ≤ 8)) && (decide (r.h ≥ 1) && decide (r.h ≤ 8)) && decide (r.s ≤ 1)) && all8 (cellOk r)) := rfl
/-- Rows and cells that have been looked at. -/
def Upto (p : Nat → Nat → Bool) (c : Nat) : Prop := ∀ c', c' < c → ∀ k, k < 8 → p c' k = true
def UptoK (p : Nat → Bool) (k : Nat) : Prop := ∀ k', k' < k → p k' = true
theorem Upto.zero (p : Nat → Nat → Bool) : Upto p 0 := fun c' h => by omega
theorem UptoK.zero (p : Nat → Bool) : UptoK p 0 := fun c' h => by omega
theorem Upto.next {p : Nat → Nat → Bool} {c : Nat} (h : Upto p c) (hr : UptoK (p c) 8) : Upto p (c + 1) := by
  intro c' hc k hk
  by_cases e : c' = c
  · subst e; exact hr k hk
  · exact h c' (by omega) k hk
theorem UptoK.next {p : Nat → Bool} {k : Nat} (h : UptoK p k) (hr : p k = true) : UptoK p (k + 1) := by
  intro k' hk
  by_cases e : k' = k
  · subst e; exact hr
  · exact h k' (by omega)
theorem Upto.all {p : Nat → Nat → Bool} (h : Upto p 8) : all8 p = true := all8_true h
theorem succ64 {n : Nat} (h : n < 4294967296) : some (D.v (Value.int .i64 ((n + 1 : Nat) : Int))) = some (D.v (.int .i64 (IntKind.i64.wrap (n + 1)))) := by
  congr 1; exact vint (by rw [w64 (by omega) (by omega)]; omega)
theorem succ8 {n : Nat} (h : n < 127) : some (D.v (Value.int .i8 ((n + 1 : Nat) : Int))) = some (D.v (.int .i8 (IntKind.i8.wrap (n + 1)))) := by
  congr 1; exact vint (by rw [w8 (by omega) (by omega)]; omega)
/-- A row, rowStored in a new block and read again. -/
theorem rowStored {t : Nat → Nat → Int} {c o : Nat} {zs : List Value} (hz : zs.length = 8) (ho : o = c * 8) (hc : c < 8) : ((splice zs 0 (((grid t).drop o).take 8)).drop 0).take 8 = row8 (t c) := by
  rw [grid_row ho hc, splice_all (by rw [hz]; simp), take_drop0 (by simp)]
end Go.V
namespace Go.Proofs.YtdbhfobnmlogeaaDoor
open Go.V

theorem validRoof_sat (r : Roof) (hr : r.In) : Sat Tryd.prog 56 [roofD r] (.v (.bool (okR r))) := by
  have e3 : IntKind.i64.wrap r.h = r.h := by have := hr.h; exact w64 (by omega) (by omega)
  have e4 : IntKind.i64.wrap r.w = r.w := by have := hr.w; exact w64 (by omega) (by omega)
  refine sat_of_wp hMix tOk Tryd.func56 rfl rfl Tryd.ntmps56 rfl rfl Tryd.results56 (by kernel_rfl) ?_
  conv => whnf
  refine ⟨_, _, rfl, within8_sat _ _ _, ?_⟩
  conv => whnf
  cases h1 : (decide (1 ≤ r.w) && decide (r.w ≤ 8))
  · refine ⟨rfl, _, rfl, ?_⟩
    have : (decide (r.w ≥ 1) && decide (r.w ≤ 8)) = false := h1
    simp only [okR_def, this, Bool.false_and]; rfl
  have h1' : (decide (r.w ≥ 1) && decide (r.w ≤ 8)) = true := h1
  conv => whnf
  refine ⟨_, _, rfl, within8_sat _ _ _, ?_⟩
  conv => whnf
  cases h2 : (decide (1 ≤ r.h) && decide (r.h ≤ 8))
  · refine ⟨rfl, _, rfl, ?_⟩
    have : (decide (r.h ≥ 1) && decide (r.h ≤ 8)) = false := h2
    simp only [okR_def, this, Bool.false_and, Bool.and_false]; rfl
  have h2' : (decide (r.h ≥ 1) && decide (r.h ≤ 8)) = true := h2
  conv => whnf
  cases h3 : (decide (r.s > 1))
  case true =>
    refine ⟨rfl, _, rfl, ?_⟩
    have : decide (r.s ≤ 1) = false := by simp at h3 ⊢; omega
    simp only [okR_def, this, Bool.false_and, Bool.and_false]; rfl
  have h3' : decide (r.s ≤ 1) = true := by simp at h3 ⊢; omega
  have hok : okR r = all8 (cellOk r) := by simp only [okR_def, h1', h2', h3', Bool.true_and]
  rw [hok]
  conv => whnf
  refine ⟨by simp [roofC], ?_⟩
  conv => whnf
  refine loop_rule (α := Nat) (fun i => [(1, .ptr (1, 0, 0) 0), (23, gridD r.t), (24, .v (.int .i64 i))]) (fun i => [((1, 0, 0), roofD r)]) (fun i => i ≤ 8 ∧ Upto (cellOk r) i) (fun i => 8 - i) 0 ⟨Nat.zero_le _, Upto.zero _⟩
    (sim_of (rn := [((1, 0, 0), (1, 0, 0))]) rfl ⟨rfl, ?_, rfl, trivial⟩ ⟨⟨_, _, rfl, rfl, rfl⟩, trivial⟩) ?_
  · show some (D.v (.agg ⟨grid r.t⟩)) = some (D.v (.agg ⟨((roofC r).drop (0 + 3)).take 64⟩))
    rw [roof_grid]
  rintro i ⟨hi, hall⟩
  conv => whnf
  cases h4 : decide ((i : Int) < 8)
  · have h8 : i = 8 := by simp at h4; omega
    subst h8
    conv => whnf
    refine ⟨rfl, _, rfl, ?_⟩
    rw [hall.all]; rfl
  conv => whnf
  have h8 : i < 8 := by simp at h4; omega
  refine ⟨⟨by omega, by omega⟩, ?_⟩
  conv => whnf
  refine ⟨by simp; omega, ?_⟩
  conv => whnf
  refine ⟨by simp; omega, ?_⟩
  conv => whnf
  refine ⟨by simp; omega, ?_⟩
  conv => whnf
  refine ⟨by simp [splice]; omega, ?_⟩
  conv => whnf
  refine loop_rule (α := Nat) (fun k => [(1, .ptr (1, 0, 0) 0), (3, .v (.int .i64 i)), (23, gridD r.t), (24, .v (.int .i64 i)), (28, row8D (r.t i)), (29, .v (.int .i64 k))]) (fun _ => [((1, 0, 0), roofD r)]) (fun k => k ≤ 8 ∧ UptoK (cellOk r i) k) (fun k => 8 - k) 0 ⟨Nat.zero_le _, UptoK.zero _⟩
    (sim_of (rn := [((1, 0, 0), (1, 0, 0))]) rfl ⟨rfl, rfl, rfl, rfl, ?_, rfl, trivial⟩ ⟨⟨_, _, rfl, rfl, rfl⟩, trivial⟩) ?_
  · show some (D.v (.agg ⟨row8 (r.t i)⟩)) = some (D.v (.agg ⟨((splice (List.replicate 8 (.int .u8 0)) 0 (((grid r.t).drop ((i : Int).toNat * 8)).take 8)).drop 0).take 8⟩))
    rw [rowStored (by simp) (by omega) h8]
  rintro k ⟨hk, hrow⟩
  conv => whnf
  cases h5 : decide ((k : Int) < 8)
  · have hk8 : k = 8 := by simp at h5; omega
    subst hk8
    conv => whnf
    exact ⟨i + 1, by dsimp only; omega, ⟨by omega, hall.next hrow⟩, sim_of (rn := [((1, 0, 0), (1, 0, 0))]) rfl ⟨rfl, rfl, succ64 (by omega), trivial⟩ ⟨⟨_, _, rfl, rfl, rfl⟩, trivial⟩⟩
  conv => whnf
  have hk8 : k < 8 := by simp at h5; omega
  refine ⟨⟨by omega, by omega⟩, ?_⟩
  conv => whnf
  refine optK_of (row8_get (k := k) (by simp) hk8) ?_
  conv => whnf
  have bad : cellOk r i k = false → all8 (cellOk r) = false := all8_false h8 hk8
  have ht := hr.t i k
  cases h6 : decide (r.t i k > 3)
  case true =>
    conv => whnf
    refine ⟨rfl, _, rfl, ?_⟩
    have : decide (r.t i k ≤ 3) = false := by simp at h6 ⊢; omega
    rw [bad (by simp only [cellOk, this, Bool.false_and])]; rfl
  have h6' : decide (r.t i k ≤ 3) = true := by simp at h6 ⊢; omega
  conv => whnf
  have fin : cellOk r i k = true → ∃ y, 8 - y < 8 - k ∧ (y ≤ 8 ∧ UptoK (cellOk r i) y) ∧ y = k + 1 := fun h => ⟨k + 1, by omega, ⟨by omega, hrow.next h⟩, rfl⟩
  cases h7 : (r.t i k != 0)
  · conv => whnf
    obtain ⟨y, g1, g2, rfl⟩ := fin (by simp at h7; simp [cellOk, h7])
    exact ⟨_, g1, g2, sim_of (rn := [((1, 0, 0), (1, 0, 0))]) rfl ⟨rfl, rfl, rfl, rfl, rfl, succ64 (by omega), trivial⟩ ⟨⟨_, _, rfl, rfl, rfl⟩, trivial⟩⟩
  conv => whnf
  rw [e3]
  have h7' : decide (r.t i k = 0) = false := by simpa using h7
  cases h9 : decide ((i : Int) ≥ r.h)
  · conv => whnf
    rw [e4]
    cases h10 : decide ((k : Int) ≥ r.w)
    · conv => whnf
      obtain ⟨y, g1, g2, rfl⟩ := fin (by simp at h9 h10 h6'; simp [cellOk, h6']; right; omega)
      exact ⟨_, g1, g2, sim_of (rn := [((1, 0, 0), (1, 0, 0))]) rfl ⟨rfl, rfl, rfl, rfl, rfl, succ64 (by omega), trivial⟩ ⟨⟨_, _, rfl, rfl, rfl⟩, trivial⟩⟩
    · conv => whnf
      refine ⟨rfl, _, rfl, ?_⟩
      have : decide ((k : Int) < r.w) = false := by simp at h10 ⊢; omega
      rw [bad (by simp only [cellOk, this, h7', Bool.and_false, Bool.or_self])]; rfl
  · conv => whnf
    refine ⟨rfl, _, rfl, ?_⟩
    have : decide ((i : Int) < r.h) = false := by simp at h9 ⊢; omega
    rw [bad (by simp only [cellOk, this, h7', Bool.false_and, Bool.and_false, Bool.or_self])]; rfl
end Go.Proofs.YtdbhfobnmlogeaaDoor
/- Contracts: valid ages, both sides. -/
set_option linter.unusedVariables false
set_option linter.unusedSimpArgs false
namespace Go.V
theorem okR_bounds {r : Roof} (h : okR r = true) : (1 ≤ r.w ∧ r.w ≤ 8) ∧ (1 ≤ r.h ∧ r.h ≤ 8) ∧ r.s ≤ 1 := by
  simp only [okR_def, Bool.and_eq_true, decide_eq_true_eq] at h
  omega
theorem grid_at {t : Nat → Nat → Int} {c k o : Nat} (ho : o = c * 8 + k) (hc : c < 8) (hk : k < 8) : nth (grid t) o = some (.int .u8 (t c k)) := by
  subst ho; exact grid_get hc hk
end Go.V
namespace Go.Proofs.YtdbhfobnmlogeaaDoor
open Go.V

end Go.Proofs.YtdbhfobnmlogeaaDoor
/- Contracts: valid colours, both sides. -/
set_option linter.unusedVariables false
set_option linter.unusedSimpArgs false
namespace Go.V
theorem UptoK.all {p : Nat → Bool} (h : UptoK p 8) : (List.range 8).all p = true := by
  simp only [List.all_eq_true, List.mem_range]
  exact h
end Go.V
namespace Go.Proofs.YtdbhfobnmlogeaaDoor
open Go.V

end Go.Proofs.YtdbhfobnmlogeaaDoor
/- Contracts: mirrored colours, both sides. -/
set_option linter.unusedVariables false
set_option linter.unusedSimpArgs false
namespace Go.V
def orU8 (a b : Int) : Int := IntKind.u8.wrap (BitVec.ofInt IntKind.u8.bits a ||| BitVec.ofInt IntKind.u8.bits b).toNat
end Go.V
namespace Go.Proofs.YtdbhfobnmlogeaaDoor
open Go.V
end Go.Proofs.YtdbhfobnmlogeaaDoor
/- Contracts: mirrored colours, the program's side, and the law. -/
set_option linter.unusedVariables false
set_option linter.unusedSimpArgs false
namespace Go.V
end Go.V
namespace Go.Proofs.YtdbhfobnmlogeaaDoor
open Go.V
end Go.Proofs.YtdbhfobnmlogeaaDoor
/- Contracts: the text of colours, both sides, and the law. -/
set_option linter.unusedVariables false
set_option linter.unusedSimpArgs false
namespace Go.V
end Go.V
namespace Go.Proofs.YtdbhfobnmlogeaaDoor
open Go.V
end Go.Proofs.YtdbhfobnmlogeaaDoor
/- Contracts: how many tiles are red, both sides, and the law. -/
set_option linter.unusedVariables false
set_option linter.unusedSimpArgs false
namespace Go.V
end Go.V
namespace Go.Proofs.YtdbhfobnmlogeaaDoor
open Go.V
end Go.Proofs.YtdbhfobnmlogeaaDoor
/- Contracts: by how many tiles colours differ, both sides, and the law. -/
set_option linter.unusedVariables false
set_option linter.unusedSimpArgs false
namespace Go.V
end Go.V
namespace Go.Proofs.YtdbhfobnmlogeaaDoor
open Go.V
end Go.Proofs.YtdbhfobnmlogeaaDoor
/- Contracts: lists of places. -/
set_option linter.unusedVariables false
set_option linter.unusedSimpArgs false
namespace Go.V
abbrev Pl := Nat × Nat
def placesC : List Pl → List Value
  | [] => []
  | q :: r => .int .i8 q.1 :: .int .i8 q.2 :: placesC r
@[simp] theorem placesC_len (a : List Pl) : (placesC a).length = a.length * 2 := by
  induction a with
  | nil => rfl
  | cons q a ih => simp only [placesC, List.length_cons, ih]; omega
theorem placesC_sub : ∀ {a : List Pl} {i : Nat} {q : Pl}, a[i]? = some q → ((placesC a).drop (i * 2)).take 2 = [.int .i8 q.1, .int .i8 q.2]
  | [], i, q, h => by simp at h
  | p :: a, 0, q, h => by
    simp only [List.getElem?_cons_zero, Option.some.injEq] at h
    subst h
    rfl
  | p :: a, i + 1, q, h => by
    rw [show (i + 1) * 2 = i * 2 + 2 by omega]
    have := placesC_sub (a := a) (i := i) (q := q) (by simpa using h)
    simpa [placesC] using this
def rowP (c k : Nat) : List Pl := (List.range k).map fun j => (c, j)
def gridP (w c : Nat) : List Pl := (List.range c).flatMap fun i => rowP i w
theorem gridP_next (w c : Nat) : gridP w (c + 1) = gridP w c ++ rowP c w := by
  unfold gridP; rw [List.range_succ, List.flatMap_append]; simp
@[simp] theorem rowP_zero (c : Nat) : rowP c 0 = [] := rfl
@[simp] theorem gridP_zero (w : Nat) : gridP w 0 = [] := rfl
@[simp] theorem rowP_len (c k : Nat) : (rowP c k).length = k := by unfold rowP; simp
theorem gridP_len (w : Nat) : ∀ c, (gridP w c).length = c * w
  | 0 => by simp
  | c + 1 => by rw [gridP_next, List.length_append, gridP_len w c, rowP_len, Nat.succ_mul]
/-- The places seen so far that are as told. -/
def pick (p : Nat → Nat → Bool) (w c k : Nat) : List Pl := (gridP w c ++ rowP c k).filter fun q => p q.1 q.2
/-- All places of a roof that are as told, in order. -/
def allP (r : Roof) (p : Nat → Nat → Bool) : List Pl := pick p r.w.toNat r.h.toNat 0
end Go.V
namespace Go.Proofs.YtdbhfobnmlogeaaDoor
open Go.V
end Go.Proofs.YtdbhfobnmlogeaaDoor
/- Contracts: valid words. -/
set_option linter.unusedVariables false
set_option linter.unusedSimpArgs false
namespace Go.V
end Go.V
namespace Go.Proofs.YtdbhfobnmlogeaaDoor
open Go.V

section
variable {g : Nat} {p : Int → Bool}
end

end Go.Proofs.YtdbhfobnmlogeaaDoor
/- Contracts: patterns of words, both sides, and the law. -/
set_option linter.unusedVariables false
set_option linter.unusedSimpArgs false
namespace Go.V
def patB (b : ByteArray) (s c k : Nat) : Bool := byteAt b ((k + s * c) % b.size) == 114
def accS (b : ByteArray) (s : Nat) (f : Nat → Int) (q : Pl) : Nat → Int := fun j => if j = q.1 ∧ patB b s q.1 q.2 = true then orU8 (f j) (IntKind.u8.wrap (1 * 2 ^ (min q.2 IntKind.u8.bits))) else f j
def acc (b : ByteArray) (s : Nat) (ps : List Pl) : Nat → Int := ps.foldl (accS b s) fun _ => 0
end Go.V
namespace Go.Proofs.YtdbhfobnmlogeaaDoor
open Go.V
theorem within64_sat (n lo hi : Int) : Sat Tryd.prog 99 [.v (.int .i64 n), .v (.int .i64 lo), .v (.int .i64 hi)] (.v (.bool (decide (lo ≤ n) && decide (n ≤ hi)))) := by
  refine sat_of_wp hMix tOk Tryd.func99 rfl rfl Tryd.ntmps99 rfl rfl Tryd.results99 (by kernel_rfl) ?_
  conv => whnf
  cases h1 : decide (lo ≤ n)
  · exact ⟨rfl, _, rfl, rfl⟩
  · conv => whnf
    cases h2 : decide (n ≤ hi) <;> exact ⟨rfl, _, rfl, rfl⟩

end Go.Proofs.YtdbhfobnmlogeaaDoor
/- Contracts: codes of ages, the age of a tile. -/
set_option linter.unusedVariables false
set_option linter.unusedSimpArgs false
namespace Go.V
end Go.V
namespace Go.Proofs.YtdbhfobnmlogeaaDoor
open Go.V
end Go.Proofs.YtdbhfobnmlogeaaDoor
/- Contracts: the oldest tile, both sides. -/
set_option linter.unusedVariables false
set_option linter.unusedSimpArgs false
namespace Go.V
def nthP (ps : List Pl) (i : Nat) : Pl := ps.getD i (0, 0)
theorem nthP_some {ps : List Pl} {i : Nat} (h : i < ps.length) : ps[i]? = some (nthP ps i) := by
  unfold nthP; rw [List.getD_eq_getElem?_getD]; simp [h]
def bestL (a : Nat → Nat → Int) (ps : List Pl) : Nat → Pl
  | 0 => nthP ps 0
  | i + 1 => if a (nthP ps (i + 1)).1 (nthP ps (i + 1)).2 > a (bestL a ps i).1 (bestL a ps i).2 then nthP ps (i + 1) else bestL a ps i
def plD (q : Pl) : D := placeD q.1 q.2
theorem place_load {ps : List Pl} {i o : Nat} (ho : o = i * 2) (h : i < ps.length) : ((placesC ps).drop o).take 2 = [.int .i8 (nthP ps i).1, .int .i8 (nthP ps i).2] := by
  subst ho; exact placesC_sub (nthP_some h)
end Go.V
namespace Go.Proofs.YtdbhfobnmlogeaaDoor
open Go.V
end Go.Proofs.YtdbhfobnmlogeaaDoor
/- Plain words for use: lengths, looks into grids and lists. -/
set_option linter.unusedVariables false
set_option linter.unusedSimpArgs false
namespace Go.V
@[simp] theorem roofC_len (r : Roof) : (roofC r).length = 67 := by simp [roofC]
theorem gridN {t : Nat → Nat → Int} {c k : Nat} (hc : c < 8) (hk : k < 8) : nth (grid t) (0 + (c : Int).toNat * 8 + (k : Int).toNat * 1) = some (.int .u8 (t c k)) := grid_at (by simp) hc hk
theorem roofN {r : Roof} {c k : Nat} (hc : c < 8) (hk : k < 8) : nth (roofC r) (0 + 3 + (c : Int).toNat * 8 + (k : Int).toNat * 1) = some (.int .u8 (r.t c k)) := roof_get (by simp) hc hk
theorem vrow {t : Nat → Nat → Int} {c o : Nat} (ho : o = c * 8) (hc : c < 8) : D.v (.agg ⟨((grid t).drop o).take 8⟩) = row8D (t c) := by
  rw [grid_row ho hc]; rfl
theorem vtiles {r : Roof} {o : Nat} (ho : o = 3) : D.v (.agg ⟨((roofC r).drop o).take 64⟩) = gridD r.t := by
  subst ho
  unfold gridD
  simp [roofC, take_full]
/-- A cell of a grid replaced. -/
def putG (t : Nat → Nat → Int) (c k : Nat) (x : Int) : Nat → Nat → Int := fun c' k' => if c' = c ∧ k' = k then x else t c' k'
def putR (r : Roof) (c k : Nat) (x : Int) : Roof := { r with t := putG r.t c k x }
theorem vplace {ps : List Pl} {i o : Nat} (ho : o = i * 2) (h : i < ps.length) : D.v (.agg ⟨((placesC ps).drop o).take 2⟩) = plD (nthP ps i) := by
  rw [place_load ho h]; rfl
theorem vsplice {xs ys : List Value} {n : Nat} (h : xs.length = ys.length) (h2 : ys.length ≤ n) : D.v (.agg ⟨((splice xs 0 ys).drop 0).take n⟩) = D.v (.agg ⟨ys⟩) := by
  rw [splice_all h, List.drop_zero, take_full h2]
theorem cset {l l' : List Value} (h : l = l') : some (D.v (.agg ⟨l⟩)) = some (D.v (.agg ⟨l'⟩)) := by rw [h]
end Go.V
/- Plain words: lists of whole numbers. -/
set_option linter.unusedVariables false
set_option linter.unusedSimpArgs false
namespace Go.V
def ix (xs : List Int) (i : Nat) : Int := xs.getD i 0
@[irreducible] def intsC (xs : List Int) : List Value := xs.map (Value.int .i64)
theorem intsC_def (xs : List Int) : intsC xs = xs.map (Value.int .i64) := by unfold intsC; rfl
@[simp] theorem intsC_len (xs : List Int) : (intsC xs).length = xs.length := by simp [intsC_def]
theorem intN {xs : List Int} {i o : Nat} (h : i < xs.length) (ho : o = i) : nth (intsC xs) o = some (.int .i64 (ix xs i)) := by
  subst ho
  rw [nth_eq, intsC_def, List.getElem?_map]
  unfold ix
  rw [List.getD_eq_getElem?_getD]
  simp [h]
theorem intA {xs : List Int} {i : Nat} (h : i < xs.length) : nth (intsC xs) (0 + (i : Int).toNat * 1) = some (.int .i64 (ix xs i)) := intN h (by simp)
theorem intA' {xs : List Int} {i : Nat} (h : i < xs.length) : nth (intsC xs) ((i : Int).toNat * 1) = some (.int .i64 (ix xs i)) := intN h (by simp)
def marksI (k : Int) (n : Nat) : List Int := (List.range n).map fun j => k + (j : Nat)
@[simp] theorem marksI_len (k : Int) (n : Nat) : (marksI k n).length = n := by simp [marksI]
end Go.V
/- Plain words: values of arrays and structs of whole numbers compared. -/
set_option linter.unusedVariables false
set_option linter.unusedSimpArgs false
namespace Go.V
section
variable {P : Program}
end
end Go.V
/- Plain words: lists of strings. -/
set_option linter.unusedVariables false
set_option linter.unusedSimpArgs false
namespace Go.V
def sx (ws : List ByteArray) (i : Nat) : ByteArray := ws.getD i ⟨#[]⟩
@[irreducible] def strsC (ws : List ByteArray) : List Value := ws.map Value.string
theorem strsC_def (ws : List ByteArray) : strsC ws = ws.map Value.string := by unfold strsC; rfl
@[simp] theorem strsC_len (ws : List ByteArray) : (strsC ws).length = ws.length := by simp [strsC_def]
theorem strsC_append (a b : List ByteArray) : strsC (a ++ b) = strsC a ++ strsC b := by simp [strsC_def]
theorem strsC_one (x : ByteArray) : strsC [x] = [.string x] := by simp [strsC_def]
theorem strsC_nil : strsC [] = [] := by simp [strsC_def]
def strsD (m : Bool) (ws : List ByteArray) : D := .row m 1 (.v (.agg ⟨strsC ws⟩)) ws.length
theorem strN {ws : List ByteArray} {i o : Nat} (h : i < ws.length) (ho : o = i) : nth (strsC ws) o = some (.string (sx ws i)) := by
  subst ho
  rw [nth_eq, strsC_def, List.getElem?_map]
  unfold sx
  rw [List.getD_eq_getElem?_getD]
  simp [h]
theorem strA {ws : List ByteArray} {i : Nat} (h : i < ws.length) : nth (strsC ws) (0 + (i : Int).toNat * 1) = some (.string (sx ws i)) := strN h (by simp)
theorem strA' {ws : List ByteArray} {i : Nat} (h : i < ws.length) : nth (strsC ws) ((i : Int).toNat * 1) = some (.string (sx ws i)) := strN h (by simp)
end Go.V
/- Contracts of Go's library, off the kit's shelf, told in this calculus: numbers as texts, texts joined. -/
set_option linter.unusedVariables false
set_option linter.unusedSimpArgs false
namespace Go.V
theorem resRep_v {w : World} {B : Nat} {x : Value} (hx : Flat x = true) : ResRep w B (.v x) x noLoc := by
  refine ⟨rfl, ?_, ?_, ?_, ?_, ?_⟩
  · show Rep w B noLoc (.v x) x
    simp [Rep, hx]
  · intro id b n h; simp [noLoc] at h
  · intro id l h; simp [noLoc] at h
  · intro id id' b n n' h; simp [noLoc] at h
  · intro j c h
    cases j with
    | zero => simp [tops, impC, rowC] at h
    | succ j => simp [tops, impC] at h
/-- A contract that hands back a plain value. -/
theorem Sat.of_calls {P : Program} {g : FuncId} {args : List D} {x : Value} (hx : Flat x = true) (hfn : ∃ fn c, P.funcs[g]? = some fn ∧ fn.body = some c ∧ (fn.name == "runtime.NumGoroutine") = false)
    (h : ∀ w vs, GlobOk w noLoc → RepL w w.heap.size noLoc args vs → Calls P g ⟨vs⟩ w fun e w' => e = .returned x ∧ RowKit.Below w.heap.size w w') : Sat P g args (.v x) := by
  refine ⟨hfn, fun w vs hg hr => (h w vs hg hr).mono ?_⟩
  rintro e w' ⟨rfl, hb⟩
  exact ⟨x, noLoc, rfl, hb, resRep_v hx⟩
theorem repL_v {w : World} {B : Nat} {xs : List Value} {vs : List Value} (h : RepL w B noLoc (xs.map .v) vs) : vs = xs := by
  induction xs generalizing vs with
  | nil => simpa [RepL] using h
  | cons x xs ih =>
    simp only [List.map_cons, RepL] at h
    obtain ⟨y, ys, rfl, h1, h2⟩ := h
    simp only [Rep] at h1
    rw [h1.1, ih h2]
theorem tabIs_of {P : Program} {w : World} {name : String} {g : Nat} {k : IntKind} {zs : List Int} (hg : P.globalNamed name = some g) (h : Cells w g (zs.map fun z => Value.int k z)) : Lib.TabIs P w name k zs := by
  obtain ⟨e, fr, h⟩ := h
  unfold Lib.TabIs World.var?
  rw [hg]
  simp [h]
theorem below_grown {w : World} {k : Nat} {os : Array Obj} : RowKit.Below w.heap.size w (Sort.grow (w.drewN k) os) := by
  refine ⟨rfl, rfl, rfl, ?_, fun j hj => ?_⟩
  · show w.heap.size ≤ (w.heap ++ os).size
    rw [Array.size_append]; omega
  · show (w.heap ++ os)[j]? = w.heap[j]?
    rw [Array.getElem?_append_left hj]
end Go.V
namespace Go.Proofs.YtdbhfobnmlogeaaDoor
open Go.V
theorem formatInt_sat (n : Int) (h0 : -9223372036854775808 ≤ n) (h1 : n ≤ 9223372036854775807) : Sat Tryd.prog 131 [.v (.int .i64 n), .v (.int .i64 10)] (.v (.string ⟨(Lib.itoa n).toArray⟩)) := by
  refine Sat.of_calls rfl ⟨_, _, Tryd.func131, rfl, rfl⟩ fun w vs hg hr => ?_
  obtain rfl := repL_v (xs := [.int .i64 n, .int .i64 10]) hr
  refine (Tryd.strconv_FormatInt_10 n h0 h1 w (tabIs_of (g := 1) (by kernel_rfl) (hg.tab 1 _ rfl).1)).mono ?_
  rintro e w' ⟨rfl, k, os, rfl⟩
  exact ⟨rfl, below_grown⟩
end Go.Proofs.YtdbhfobnmlogeaaDoor
/- Contracts: the oldest tile, the reference's side. -/
set_option linter.unusedVariables false
set_option linter.unusedSimpArgs false
namespace Go.V
end Go.V
namespace Go.Proofs.YtdbhfobnmlogeaaDoor
open Go.V
end Go.Proofs.YtdbhfobnmlogeaaDoor
/- Contracts: OldestOf, both sides, and the law. -/
set_option linter.unusedVariables false
set_option linter.unusedSimpArgs false
namespace Go.V
end Go.V
namespace Go.Proofs.YtdbhfobnmlogeaaDoor
open Go.V
end Go.Proofs.YtdbhfobnmlogeaaDoor
/- Contracts: FirstBreak, both sides, and the law. -/
set_option linter.unusedVariables false
set_option linter.unusedSimpArgs false
namespace Go.V
end Go.V
namespace Go.Proofs.YtdbhfobnmlogeaaDoor
open Go.V
end Go.Proofs.YtdbhfobnmlogeaaDoor
/- Contracts: equal grids and roofs; ages some years later, both sides, and the law. -/
set_option linter.unusedVariables false
set_option linter.unusedSimpArgs false
namespace Go.V
end Go.V
namespace Go.Proofs.YtdbhfobnmlogeaaDoor
open Go.V
end Go.Proofs.YtdbhfobnmlogeaaDoor
/- Contracts: lists of places by a function that carries values with it; marks in lists of places; tiles that are too old. -/
set_option linter.unusedVariables false
set_option linter.unusedSimpArgs false
namespace Go.V
/- Words for the walks of this text: their default arguments are tried where they are used. -/
end Go.V
namespace Go.V
/-- Cells with numbers one after another. -/
def marksC (k : Int) (n : Nat) : List Value := tab n fun j => .int .i8 (IntKind.i8.wrap (k + j))
@[simp] theorem marksC_len (k : Int) (n : Nat) : (marksC k n).length = n := by simp [marksC]
end Go.V
namespace Go.Proofs.YtdbhfobnmlogeaaDoor
open Go.V
end Go.Proofs.YtdbhfobnmlogeaaDoor
/- Contracts: marks in lists of places; tiles that are too old; broken roofs; the laws. -/
set_option linter.unusedVariables false
set_option linter.unusedSimpArgs false
namespace Go.V
theorem allP_eq (r : Roof) (p : Nat → Nat → Bool) : allP r p = (gridP r.w.toNat r.h.toNat).filter fun q => p q.1 q.2 := by
  unfold allP pick; simp
theorem allP_len {r : Roof} (hb : (1 ≤ r.w ∧ r.w ≤ 8) ∧ (1 ≤ r.h ∧ r.h ≤ 8) ∧ r.s ≤ 1) (p : Nat → Nat → Bool) : (allP r p).length ≤ 64 := by
  rw [allP_eq]
  refine Nat.le_trans (List.length_filter_le _ _) ?_
  rw [gridP_len]
  exact Nat.mul_le_mul (show r.h.toNat ≤ 8 by omega) (show r.w.toNat ≤ 8 by omega)
end Go.V
namespace Go.Proofs.YtdbhfobnmlogeaaDoor
open Go.V
end Go.Proofs.YtdbhfobnmlogeaaDoor
/- Contracts: broken roofs, both sides, and the law. -/
set_option linter.unusedVariables false
set_option linter.unusedSimpArgs false
namespace Go.V
end Go.V
namespace Go.Proofs.YtdbhfobnmlogeaaDoor
open Go.V
end Go.Proofs.YtdbhfobnmlogeaaDoor
/- Contracts: lists of whole numbers; visits; the law on visits. -/
set_option linter.unusedVariables false
set_option linter.unusedSimpArgs false
namespace Go.V
end Go.V
namespace Go.Proofs.YtdbhfobnmlogeaaDoor
open Go.V
end Go.Proofs.YtdbhfobnmlogeaaDoor
/- Contracts: visits that are checked, both sides, and the law. -/
set_option linter.unusedVariables false
set_option linter.unusedSimpArgs false
namespace Go.V
end Go.V
namespace Go.Proofs.YtdbhfobnmlogeaaDoor
open Go.V
end Go.Proofs.YtdbhfobnmlogeaaDoor
/- Contracts: all words, patterns found again, both sides, and the law. -/
set_option linter.unusedVariables false
set_option linter.unusedSimpArgs false
namespace Go.V
/- Words for the walks of this text: their default arguments are tried where they are used. -/
end Go.V
namespace Go.V
def letB : ByteArray := ⟨#[98]⟩
def letR : ByteArray := ⟨#[114]⟩
/-- The j-th word of n letters. -/
def word : Nat → Nat → ByteArray
  | 0, _ => ⟨#[]⟩
  | n + 1, j => word n (j / 2) ++ (if j % 2 = 1 then letR else letB)
@[simp] theorem word_size : ∀ n j, (word n j).size = n
  | 0, _ => rfl
  | n + 1, j => by
    have h1 := word_size n (j / 2)
    have h2 : (if j % 2 = 1 then letR else letB).size = 1 := by split <;> rfl
    simp only [word, ByteArray.size_append, h1, h2]
@[irreducible] def wordsC (n m : Nat) : List Value := tab m fun j => .string (word n j)
@[simp] theorem wordsC_len (n m : Nat) : (wordsC n m).length = m := by unfold wordsC; simp
theorem below_succ {p : Nat → Prop} {q : Nat} (h : ∀ k, k < q → p k) (hq : p q) : ∀ k, k < q + 1 → p k := by
  intro k hk
  by_cases e : k = q
  · subst e; exact hq
  · exact h k (by omega)
end Go.V
namespace Go.Proofs.YtdbhfobnmlogeaaDoor
open Go.V
end Go.Proofs.YtdbhfobnmlogeaaDoor
/- Contracts: patterns found again, the reference's side, and the law. -/
set_option linter.unusedVariables false
set_option linter.unusedSimpArgs false
namespace Go.V
/- Words for the walks of this text: their default arguments are tried where they are used. -/
end Go.V
namespace Go.V
end Go.V
namespace Go.Proofs.YtdbhfobnmlogeaaDoor
open Go.V
end Go.Proofs.YtdbhfobnmlogeaaDoor
/- Contracts: something of each place; what has to be replaced, both sides, and the law. -/
set_option linter.unusedVariables false
set_option linter.unusedSimpArgs false
namespace Go.V
def newB (life nx y b : Int) : Int := if nx - b > life then y else b
/-- The first k tiles seen to. -/
def bornS (life nx y : Int) (born : List Int) (k : Nat) : List Int := (born.take k).map (newB life nx y) ++ born.drop k
def cntS (life nx : Int) (born : List Int) (k : Nat) : Nat := (born.take k).countP fun b => decide (nx - b > life)
def nxAt (years : Int) (vs : List Int) (i : Nat) : Int := if i + 1 < vs.length then ix vs (i + 1) else years
def bornI (life years : Int) (vs b0 : List Int) : Nat → List Int
  | 0 => b0
  | i + 1 => bornS life (nxAt years vs i) (ix vs i) (bornI life years vs b0 i) b0.length
def outI (life years : Int) (vs b0 : List Int) : Nat → List Int
  | 0 => []
  | i + 1 => outI life years vs b0 i ++ [((cntS life (nxAt years vs i) (bornI life years vs b0 i) b0.length : Nat) : Int)]
@[simp] theorem bornS_len (life nx y : Int) (born : List Int) (k : Nat) : (bornS life nx y born k).length = born.length := by
  simp [bornS]
  omega
@[simp] theorem bornI_len (life years : Int) (vs b0 : List Int) : ∀ i, (bornI life years vs b0 i).length = b0.length
  | 0 => rfl
  | i + 1 => by simp only [bornI, bornS_len]; exact bornI_len life years vs b0 i
@[simp] theorem outI_len (life years : Int) (vs b0 : List Int) : ∀ i, (outI life years vs b0 i).length = i
  | 0 => rfl
  | i + 1 => by simp only [outI, List.length_append, outI_len life years vs b0 i]; rfl
end Go.V
namespace Go.Proofs.YtdbhfobnmlogeaaDoor
open Go.V
end Go.Proofs.YtdbhfobnmlogeaaDoor
/- Contracts: the nearest pattern, both sides, and the law. -/
set_option linter.unusedVariables false
set_option linter.unusedSimpArgs false
namespace Go.V
/- Words for the walks of this text: their default arguments are tried where they are used. -/
end Go.V
namespace Go.V
end Go.V
namespace Go.Proofs.YtdbhfobnmlogeaaDoor
open Go.V
end Go.Proofs.YtdbhfobnmlogeaaDoor
/- Plain words: gutters, their pipes, and water. -/
set_option linter.unusedVariables false
set_option linter.unusedSimpArgs false
namespace Go.V
structure Gut where
  n : Int
  dp : Int
  h : Nat → Int
  lv : Int
  ps : List (Int × Int)
def px (ps : List (Int × Int)) (i : Nat) : Int × Int := ps.getD i (0, 0)
structure Gut.In (g : Gut) : Prop where
  n : -128 ≤ g.n ∧ g.n ≤ 127
  dp : -32768 ≤ g.dp ∧ g.dp ≤ 32767
  h : ∀ i, -128 ≤ g.h i ∧ g.h i ≤ 127
  lv : 0 ≤ g.lv ∧ g.lv ≤ 4294967295
  ps : ∀ i, i < g.ps.length → (-128 ≤ (px g.ps i).1 ∧ (px g.ps i).1 ≤ 127) ∧ (-32768 ≤ (px g.ps i).2 ∧ (px g.ps i).2 ≤ 32767)
  len : g.ps.length ≤ 9223372036854775807
@[irreducible] def pipesC (ps : List (Int × Int)) : List Value := ps.flatMap fun q => [.int .i8 q.1, .int .i16 q.2]
theorem pipesC_def (ps : List (Int × Int)) : pipesC ps = ps.flatMap fun q => [.int .i8 q.1, .int .i16 q.2] := by unfold pipesC; rfl
theorem pipesC_cons (q : Int × Int) (ps : List (Int × Int)) : pipesC (q :: ps) = .int .i8 q.1 :: .int .i16 q.2 :: pipesC ps := by simp [pipesC_def]
theorem pipesC_nil : pipesC [] = [] := by simp [pipesC_def]
@[simp] theorem pipesC_len (ps : List (Int × Int)) : (pipesC ps).length = ps.length * 2 := by
  induction ps with
  | nil => simp [pipesC_nil]
  | cons q ps ih => simp only [pipesC_cons, List.length_cons, ih]; omega
def hV (h : Nat → Int) : List Value := [.int .i8 (h 0), .int .i8 (h 1), .int .i8 (h 2), .int .i8 (h 3), .int .i8 (h 4), .int .i8 (h 5), .int .i8 (h 6), .int .i8 (h 7), .int .i8 (h 8), .int .i8 (h 9), .int .i8 (h 10), .int .i8 (h 11), .int .i8 (h 12), .int .i8 (h 13), .int .i8 (h 14), .int .i8 (h 15), .int .i8 (h 16)]
/-- Water. -/
def watC (w : Nat → Int) : List Value := tab 17 fun i => .int .i32 (w i)
@[simp] theorem watC_len (w : Nat → Int) : (watC w).length = 17 := by simp [watC]
def watD (w : Nat → Int) : D := .v (.agg ⟨watC w⟩)
theorem watN {w : Nat → Int} {o i : Nat} (ho : o = i) (h : i < 17) : nth (watC w) o = some (.int .i32 (w i)) := by subst ho; unfold watC; rw [nth_tab h]
theorem watA {w : Nat → Int} {i : Nat} (h : i < 17) : nth (watC w) (0 + (i : Int).toNat * 1) = some (.int .i32 (w i)) := watN (by simp) h
theorem watA' {w : Nat → Int} {i : Nat} (h : i < 17) : nth (watC w) ((i : Int).toNat * 1) = some (.int .i32 (w i)) := watN (by simp) h
def putW (w : Nat → Int) (c : Nat) (x : Int) : Nat → Int := fun j => if j = c then x else w j
/-- What is valid. -/
def deepB (x : Int) : Bool := decide (0 ≤ x) && decide (x ≤ 1000)
end Go.V
/- Contracts: what the laws do with gutters and water. -/
set_option linter.unusedVariables false
set_option linter.unusedSimpArgs false
namespace Go.V
/- Words for the walks of this text: their default arguments are tried where they are used. -/
end Go.V
namespace Go.V
/-- Of an array the first k cells of another one. -/
def mix (x f : Nat → Int) (k : Nat) : Nat → Int := fun j => if j < k then x j else f j
theorem mix_zero (x f : Nat → Int) : mix x f 0 = f := by funext j; simp [mix]
theorem mix_put {x f : Nat → Int} {k : Nat} : putW (mix x f k) k (x k) = mix x f (k + 1) := by
  funext j
  unfold putW mix
  by_cases h : j = k
  · subst h; simp
  · rw [if_neg h]
    by_cases h2 : j < k
    · rw [if_pos h2, if_pos (by omega)]
    · rw [if_neg h2, if_neg (by omega)]
/-- Heights as cells. -/
def hC (h : Nat → Int) : List Value := tab 17 fun i => .int .i8 (h i)
@[simp] theorem hC_len (h : Nat → Int) : (hC h).length = 17 := by simp [hC]
end Go.V
namespace Go.Proofs.YtdbhfobnmlogeaaDoor
open Go.V
end Go.Proofs.YtdbhfobnmlogeaaDoor
/- Contracts: valid gutters and water, both sides. -/
set_option linter.unusedVariables false
set_option linter.unusedSimpArgs false
namespace Go.V
/- Words for the walks of this text: their default arguments are tried where they are used. -/
end Go.V
namespace Go.V
end Go.V
namespace Go.Proofs.YtdbhfobnmlogeaaDoor
open Go.V
end Go.Proofs.YtdbhfobnmlogeaaDoor
/- Plain words: what a minute does with the water in a gutter. -/
set_option linter.unusedVariables false
set_option linter.unusedSimpArgs false
namespace Go.V
def upL (n : Nat) : List Int := (List.range n).map fun i => Int.ofNat i
@[simp] theorem upL_len (n : Nat) : (upL n).length = n := by simp [upL]
end Go.V
/- Contracts: where water flows, a minute, and several, both sides; the laws. -/
set_option linter.unusedVariables false
set_option linter.unusedSimpArgs false
namespace Go.V
/- Words for the walks of this text: their default arguments are tried where they are used. -/
end Go.V
namespace Go.Proofs.YtdbhfobnmlogeaaDoor
open Go.V
end Go.Proofs.YtdbhfobnmlogeaaDoor
/- Contracts: a minute, and several, both sides; the laws. -/
set_option linter.unusedVariables false
set_option linter.unusedSimpArgs false
namespace Go.V
end Go.V
namespace Go.Proofs.YtdbhfobnmlogeaaDoor
open Go.V
end Go.Proofs.YtdbhfobnmlogeaaDoor
/- Plain words: the first least of a list; a gutter without leaves in a cell. -/
set_option linter.unusedVariables false
set_option linter.unusedSimpArgs false
namespace Go.V
def nx (ls : List Nat) (i : Nat) : Nat := ls.getD i 0
def toI (ls : List Nat) : List Int := ls.map Int.ofNat
@[simp] theorem toI_len (ls : List Nat) : (toI ls).length = ls.length := by simp [toI]
end Go.V
/- Contracts: the cell whose leaves are best taken away, both sides, and the law. -/
set_option linter.unusedVariables false
set_option linter.unusedSimpArgs false
namespace Go.V
end Go.V
namespace Go.Proofs.YtdbhfobnmlogeaaDoor
open Go.V
end Go.Proofs.YtdbhfobnmlogeaaDoor
/- Plain words: rain that runs down a roof. -/
set_option linter.unusedVariables false
set_option linter.unusedSimpArgs false
namespace Go.V
/-- Rain. -/
def raiC (w : Nat → Int) : List Value := tab 17 fun i => .int .i16 (w i)
@[simp] theorem raiC_len (w : Nat → Int) : (raiC w).length = 17 := by simp [raiC]
def raiD (w : Nat → Int) : D := .v (.agg ⟨raiC w⟩)
theorem raiN {w : Nat → Int} {o i : Nat} (ho : o = i) (h : i < 17) : nth (raiC w) o = some (.int .i16 (w i)) := by subst ho; unfold raiC; rw [nth_tab h]
theorem raiA {w : Nat → Int} {i : Nat} (h : i < 17) : nth (raiC w) (0 + (i : Int).toNat * 1) = some (.int .i16 (w i)) := raiN (by simp) h
theorem raiA' {w : Nat → Int} {i : Nat} (h : i < 17) : nth (raiC w) ((i : Int).toNat * 1) = some (.int .i16 (w i)) := raiN (by simp) h
theorem rai_set {w : Nat → Int} {c o : Nat} {x : Int} (ho : o = c) : (raiC w).set o (.int .i16 x) = raiC (putW w c x) := by
  subst ho
  unfold raiC putW
  rw [tab_set]
  apply tab_congr
  intro i hi
  by_cases h : i = o
  · subst h; simp
  · simp [h]
theorem raiC_zero : raiC (fun _ => 0) = List.replicate 17 (.int .i16 0) := by
  unfold raiC; rw [tab_def]; rfl
/-- What drips: eight courses of seventeen cells. -/
def dripC (f : Nat → Nat → Int) : List Value := tab 136 fun k => .int .i32 (f (k / 17) (k % 17))
@[simp] theorem dripC_len (f : Nat → Nat → Int) : (dripC f).length = 136 := by simp [dripC]
theorem dripN {f : Nat → Nat → Int} {o i c : Nat} (ho : o = i * 17 + c) (hi : i < 8) (hc : c < 17) : nth (dripC f) o = some (.int .i32 (f i c)) := by
  subst ho
  unfold dripC
  rw [nth_tab (by omega), show (i * 17 + c) / 17 = i by omega, show (i * 17 + c) % 17 = c by omega]
theorem dripA {f : Nat → Nat → Int} {i c : Nat} (hi : i < 8) (hc : c < 17) : nth (dripC f) (0 + (i : Int).toNat * 17 + (c : Int).toNat * 1) = some (.int .i32 (f i c)) := dripN (by simp) hi hc
/-- Which tile covers a cell of a course, and of what kind it is. -/
def shN (r : Roof) (i : Nat) : Nat := (i + r.s.toNat) % 2
def tlI (r : Roof) (i c : Nat) : Int := if c < shN r i then -1 else if (((c - shN r i) / 2 : Nat) : Int) < r.w then (((c - shN r i) / 2 : Nat) : Int) else -1
def ovI (r : Roof) (i c : Nat) : Int := if tlI r i c < 0 then 0 else r.t i (tlI r i c).toNat
def drI (r : Roof) (i c : Nat) (n : Int) : Int :=
  if ovI r i c = 1 then (n + 1).tdiv 2 else if ovI r i c = 2 then (n + 2).tdiv 3 else if ovI r i c = 3 then (if 0 < i ∧ ovI r (i - 1) c = 2 then 0 else n) else 0
theorem tlI_range (r : Roof) (i c : Nat) : -1 ≤ tlI r i c ∧ (tlI r i c < 0 ∨ tlI r i c < r.w) := by
  unfold tlI
  split
  · omega
  · split <;> omega
def wtI (r : Roof) (w : Nat → Int) (c : Nat) : Nat → Int
  | 0 => w c
  | i + 1 => wtI r w c i - drI r i c (wtI r w c i)
def onR (r : Roof) (i c : Nat) : Prop := (i : Int) < r.h ∧ (c : Int) < 2 * r.w + 1
instance (r : Roof) (i c : Nat) : Decidable (onR r i c) := by unfold onR; exact inferInstance
/-- Of a roof and rain: what drips, what comes to each course, what comes to the gutter. -/
def dR (r : Roof) (w : Nat → Int) (i c : Nat) : Int := if onR r i c then drI r i c (wtI r w c i) else 0
def gtL (r : Roof) (w : Nat → Int) (n : Nat) : List Int := (List.range n).map fun c => wtI r w c r.h.toNat
@[simp] theorem gtL_len (r : Roof) (w : Nat → Int) (n : Nat) : (gtL r w n).length = n := by simp [gtL]
/-- The cells of a struct whose head is a table. -/
def dripL (f : Nat → Nat → Int) : List D := (dripC f).map D.v
@[simp] theorem dripL_len (f : Nat → Nat → Int) : (dripL f).length = 136 := by simp [dripL]
theorem flowG {f : Nat → Nat → Int} {x y : D} : nth (dripL f ++ [x, y]) (0 + 136) = some x := by
  rw [nth_eq, List.getElem?_append_right (by simp)]; simp
theorem flowM {f : Nat → Nat → Int} {x y : D} : nth (dripL f ++ [x, y]) (0 + 137) = some y := by
  rw [nth_eq, List.getElem?_append_right (by simp)]; simp
end Go.V
namespace Go.Proofs.YtdbhfobnmlogeaaDoor
open Go.V
end Go.Proofs.YtdbhfobnmlogeaaDoor
/- Contracts: rain that runs down a roof, both sides. -/
set_option linter.unusedVariables false
set_option linter.unusedSimpArgs false
namespace Go.V
/- Words for the walks of this text: their default arguments are tried where they are used. -/
theorem go_D8 {P Q : Prop} (k : Q) (h : P := by first | exact Nat.le_of_ble_eq_true rfl | exact mapOkP | exact rfl | decide | omega | (simp [splice]; done) | (constructor <;> omega) | (simp [splice]; omega)) : P ∧ Q := ⟨h, k⟩
theorem lk_D8 {α : Type} {o : Option α} {K : α → Prop} {x : α} (k : K x) (h : o = some x := by first | exact raiA (by omega) | exact raiA' (by omega) | exact dripA (by omega) (by omega) | exact roofN (by omega) (by omega) | exact gridN (by omega) (by omega) | exact flowG | exact flowM | exact intA (by omega) | exact intA' (by omega)) : optK o K := optK_of h k
end Go.V
namespace Go.V
end Go.V
namespace Go.Proofs.YtdbhfobnmlogeaaDoor
open Go.V
section
variable (r : Roof) (hr : r.In) (hb : (1 ≤ r.w ∧ r.w ≤ 8) ∧ (1 ≤ r.h ∧ r.h ≤ 8) ∧ r.s ≤ 1)
include hr hb
theorem l01Cells_sat : Sat Tryd.prog 81 [.ref false (roofD r) 0] (.v (.int .i64 (2 * r.w + 1))) := by
  have hw := hr.w
  refine sat_of_wp hMix tOk Tryd.func81 rfl rfl Tryd.ntmps81 rfl rfl Tryd.results81 (by kernel_rfl) ?_
  conv => whnf
  repeat (first | (refine go_D8 ?_; conv => whnf) | (refine lk_D8 ?_; conv => whnf))
  rw [show IntKind.i64.wrap r.w = r.w from w64 (by omega) (by omega), show IntKind.i64.wrap (2 * r.w) = 2 * r.w from w64 (by omega) (by omega), show IntKind.i64.wrap (2 * r.w + 1) = 2 * r.w + 1 from w64 (by omega) (by omega)]
  first | refine ⟨rfl, _, rfl, ?_⟩ | refine ⟨_, rfl, ?_⟩
  rfl
theorem cells_sat : Sat Tryd.prog 73 [roofD r] (.v (.int .i64 (2 * r.w + 1))) := by
  have hw := hr.w
  refine sat_of_wp hMix tOk Tryd.func73 rfl rfl Tryd.ntmps73 rfl rfl Tryd.results73 (by kernel_rfl) ?_
  conv => whnf
  repeat (first | (refine go_D8 ?_; conv => whnf) | (refine lk_D8 ?_; conv => whnf))
  rw [show IntKind.i64.wrap r.w = r.w from w64 (by omega) (by omega), show IntKind.i64.wrap (2 * r.w) = 2 * r.w from w64 (by omega) (by omega), show IntKind.i64.wrap (2 * r.w + 1) = 2 * r.w + 1 from w64 (by omega) (by omega)]
  first | refine ⟨rfl, _, rfl, ?_⟩ | refine ⟨_, rfl, ?_⟩
  rfl
end
end Go.Proofs.YtdbhfobnmlogeaaDoor
/- Contracts: rain that runs down a roof, both sides. -/
set_option linter.unusedVariables false
set_option linter.unusedSimpArgs false
namespace Go.Proofs.YtdbhfobnmlogeaaDoor
open Go.V
end Go.Proofs.YtdbhfobnmlogeaaDoor
/- Plain words: rain that is valid, how much drips in all, the best tile to make whole. -/
set_option linter.unusedVariables false
set_option linter.unusedSimpArgs false
namespace Go.V
def smT (p : Nat → Int) : Nat → Int
  | 0 => 0
  | n + 1 => smT p n + p n
/-- The sum of a table's first rows. -/
def totS (f : Nat → Nat → Int) (n : Nat) : Int := smT (fun i => smT (f i) 17) n
theorem smT_zero {p : Nat → Int} {m : Nat} (h : ∀ i, i < m → p i = 0) : ∀ n, n ≤ m → smT p n = 0
  | 0, _ => rfl
  | n + 1, hn => by simp only [smT, smT_zero h n (by omega), h n (by omega), Int.add_zero]
/-- How much drips in all. -/
def dsI (r : Roof) (w : Nat → Int) : Int := totS (dR r w) 8
/-- How much less drips if a tile is whole. -/
def svI (r : Roof) (w : Nat → Int) (c k : Nat) : Int := dsI r w - dsI (putR r c k 0) w
def wrB (r : Roof) (c k : Nat) : Bool := r.t c k != 0
def wrP (r : Roof) : List Pl := allP r (wrB r)
theorem nthP_mem {ps : List Pl} {i : Nat} (h : i < ps.length) : nthP ps i ∈ ps := List.mem_of_getElem? (nthP_some h)
theorem bestL_mem2 {a : Nat → Nat → Int} {ps : List Pl} : ∀ {i : Nat}, i < ps.length → bestL a ps i ∈ ps
  | 0, h => nthP_mem h
  | i + 1, h => by
    simp only [bestL]
    split
    · exact nthP_mem h
    · exact bestL_mem2 (by omega)
/-- The tile that is best made whole. -/
def bwP (r : Roof) (w : Nat → Int) : Pl := bestL (svI r w) (wrP r) ((wrP r).length - 1)
def mdR (r : Roof) (w : Nat → Int) : Nat → Roof
  | 0 => r
  | n + 1 => putR (mdR r w n) (bwP (mdR r w n) w).1 (bwP (mdR r w n) w).2 0
def mdL (r : Roof) (w : Nat → Int) : Nat → List Pl
  | 0 => []
  | n + 1 => mdL r w n ++ [bwP (mdR r w n) w]
@[simp] theorem mdR_w (r : Roof) (w : Nat → Int) : ∀ n, (mdR r w n).w = r.w
  | 0 => rfl
  | n + 1 => mdR_w r w n
@[simp] theorem mdR_h (r : Roof) (w : Nat → Int) : ∀ n, (mdR r w n).h = r.h
  | 0 => rfl
  | n + 1 => mdR_h r w n
@[simp] theorem mdR_s (r : Roof) (w : Nat → Int) : ∀ n, (mdR r w n).s = r.s
  | 0 => rfl
  | n + 1 => mdR_s r w n
@[simp] theorem mdL_len (r : Roof) (w : Nat → Int) : ∀ n, (mdL r w n).length = n
  | 0 => rfl
  | n + 1 => by simp [mdL, mdL_len r w n]
theorem wrP_eq (r : Roof) : wrP r = (gridP r.w.toNat r.h.toNat).filter fun q => wrB r q.1 q.2 := allP_eq r _
theorem wrP_drop {r : Roof} {q : Pl} (h : q ∈ wrP r) : (wrP (putR r q.1 q.2 0)).length < (wrP r).length := by
  rw [wrP_eq] at h
  rw [wrP_eq, wrP_eq]
  show ((gridP r.w.toNat r.h.toNat).filter fun x => wrB (putR r q.1 q.2 0) x.1 x.2).length < _
  have e : ((gridP r.w.toNat r.h.toNat).filter fun x => wrB (putR r q.1 q.2 0) x.1 x.2) = ((gridP r.w.toNat r.h.toNat).filter fun q => wrB r q.1 q.2).filter fun x => x != q := by
    rw [List.filter_filter]
    apply List.filter_congr
    intro x _
    unfold wrB putR putG
    by_cases hx : x = q
    · subst hx; simp
    · have : ¬ (x.1 = q.1 ∧ x.2 = q.2) := fun h => hx (Prod.ext h.1 h.2)
      have hx' : (x != q) = true := by simpa using hx
      simp [this, hx']
  rw [e]
  exact List.length_filter_lt_length_iff_exists.2 ⟨q, h, by simp⟩
theorem wrP_ne {r : Roof} {w : Nat → Int} (hw : ∀ c, c < 17 → 0 ≤ w c ∧ w c ≤ 1000) (hb : (1 ≤ r.w ∧ r.w ≤ 8) ∧ (1 ≤ r.h ∧ r.h ≤ 8) ∧ r.s ≤ 1) (h : 0 < dsI r w) : 0 < (wrP r).length := by
  rcases Nat.eq_zero_or_pos (wrP r).length with h0 | h0
  · exfalso
    have hall : ∀ c k : Nat, (c : Int) < r.h → (k : Int) < r.w → r.t c k = 0 := by
      intro c k hc hk
      have hm : (c, k) ∈ gridP r.w.toNat r.h.toNat := by
        unfold gridP rowP
        simp only [List.mem_flatMap, List.mem_range, List.mem_map]
        exact ⟨c, by omega, k, by omega, rfl⟩
      rw [List.length_eq_zero_iff, wrP_eq] at h0
      have := List.filter_eq_nil_iff.1 h0 _ hm
      unfold wrB at this
      simpa using this
    have hd : ∀ i c, dR r w i c = 0 := by
      intro i c
      unfold dR
      split
      · rename_i hon
        have ho : ovI r i c = 0 := by
          have := tlI_range r i c
          unfold ovI
          split
          · rfl
          · exact hall _ _ hon.1 (by omega)
        unfold drI
        rw [ho]
        rfl
      · rfl
    have : dsI r w = 0 := by
      unfold dsI totS
      exact smT_zero (m := 8) (fun i _ => smT_zero (m := 17) (fun c _ => hd i c) 17 (Nat.le_refl _)) 8 (Nat.le_refl _)
    omega
  · exact h0
theorem bwP_mem {r : Roof} {w : Nat → Int} (h : 0 < (wrP r).length) : bwP r w ∈ wrP r := bestL_mem2 (by omega)
/-- What holds before each round. -/
structure MdOk (r : Roof) (w : Nat → Int) (b : Int) (n : Nat) : Prop where
  le : n + (wrP (mdR r w n)).length ≤ 64
  no : ∀ j, j < n → b < dsI (mdR r w j) w
theorem MdOk.zero {r : Roof} (hb : (1 ≤ r.w ∧ r.w ≤ 8) ∧ (1 ≤ r.h ∧ r.h ≤ 8) ∧ r.s ≤ 1) (w : Nat → Int) (b : Int) : MdOk r w b 0 :=
  ⟨by have := allP_len hb (wrB r); show 0 + (wrP r).length ≤ 64; unfold wrP; omega, fun j hj => by omega⟩
theorem MdOk.next {r : Roof} (hb : (1 ≤ r.w ∧ r.w ≤ 8) ∧ (1 ≤ r.h ∧ r.h ≤ 8) ∧ r.s ≤ 1) {w : Nat → Int} (hw : ∀ c, c < 17 → 0 ≤ w c ∧ w c ≤ 1000) {b : Int} (hb0 : 0 ≤ b) {n : Nat} (h : MdOk r w b n) (hd : b < dsI (mdR r w n) w) :
    0 < (wrP (mdR r w n)).length ∧ MdOk r w b (n + 1) := by
  have hne := wrP_ne (r := mdR r w n) hw (by simpa using hb) (by omega)
  refine ⟨hne, ?_, fun j hj => ?_⟩
  · have := wrP_drop (bwP_mem (w := w) hne)
    have h1 := h.le
    simp only [mdR]
    omega
  · by_cases hjn : j = n
    · subst hjn; exact hd
    · exact h.no j (by omega)
end Go.V
/- Contracts: whether rain is valid, how much drips in all, both sides. -/
set_option linter.unusedVariables false
set_option linter.unusedSimpArgs false
namespace Go.V
/- Words for the walks of this text: their default arguments are tried where they are used. -/
theorem go_E2 {P Q : Prop} (k : Q) (h : P := by first | exact Nat.le_of_ble_eq_true rfl | exact rfl | decide | omega | (simp [splice]; done) | (constructor <;> omega) | (simp [splice]; omega)) : P ∧ Q := ⟨h, k⟩
theorem lk_E2 {α : Type} {o : Option α} {K : α → Prop} {x : α} (k : K x) (h : o = some x := by first | exact raiA (by omega) | exact raiA' (by omega) | exact watA (by omega) | exact watA' (by omega) | exact dripA (by omega) (by omega) | exact roofN (by omega) (by omega) | exact gridN (by omega) (by omega) | exact intA (by omega) | exact intA' (by omega)) : optK o K := optK_of h k
theorem sc_E2 {P : Program} {g : FuncId} {args args' : List D} {res : D} (h : Sat P g args res) (e : args' = args := by repeat (first | rfl | exact vfull (by first | (simp [splice]; done) | (simp [splice]; omega)) | exact rfull (by first | (simp [splice]; done) | (simp [splice]; omega)) | exact vdrow (by simp; done) (by omega) | exact vrows (by omega) | exact vplace (by simp; done) (by omega) | exact vrow (by simp; done) (by omega) | exact vtiles (by simp) | exact vsplice (by simp) (by simp) | refine ceq ?_ ?_ | refine Eq.trans (vsplice (by first | (simp; done) | (simp; omega)) (by first | (simp; done) | (simp; omega))) ?_)) : Sat P g args' res := Sat.of_eq h e
end Go.V
namespace Go.V
theorem drip_row {f : Nat → Nat → Int} {o i : Nat} (ho : o = i * 17) (hi : i < 8) : ((dripC f).drop o).take 17 = watC (f i) := by
  subst ho
  unfold dripC watC
  rw [tab_sub (by omega)]
  exact tab_congr fun c hc => by rw [show (i * 17 + c) / 17 = i by omega, show (i * 17 + c) % 17 = c by omega]
def rowsC (f : Nat → Nat → Int) (n : Nat) : List Value := ((dripC f).drop 0).take (n * 17)
def rowsD (f : Nat → Nat → Int) (n : Nat) : D := .row false 17 (.v (.agg ⟨rowsC f n⟩)) n
@[simp] theorem rowsC_len {f : Nat → Nat → Int} {n : Nat} (h : n ≤ 8) : (rowsC f n).length = n * 17 := by unfold rowsC; simp; omega
theorem rows_row {f : Nat → Nat → Int} {o n i : Nat} (ho : o = i * 17) (hi : i < n) (hn : n ≤ 8) : ((rowsC f n).drop o).take 17 = watC (f i) := by
  unfold rowsC
  rw [List.drop_zero, List.drop_take, List.take_take, show min 17 (n * 17 - o) = 17 by omega]
  exact drip_row ho (by omega)
theorem vdrow {f : Nat → Nat → Int} {o n i : Nat} (ho : o = i * 17) (hi : i < n ∧ n ≤ 8) : D.v (.agg ⟨((rowsC f n).drop o).take 17⟩) = watD (f i) := by rw [rows_row ho hi.1 hi.2]; rfl
theorem vrows {f : Nat → Nat → Int} {a b n : Nat} (h : a = n * 17 ∧ b = n) : D.row false 17 (.v (.agg ⟨((dripC f).drop 0).take a⟩)) b = rowsD f n := by rw [h.1, h.2]; rfl
def qL (q : Nat → Int) (n : Nat) : List Int := (List.range n).map q
@[simp] theorem qL_len (q : Nat → Int) (n : Nat) : (qL q n).length = n := by simp [qL]
end Go.V
namespace Go.Proofs.YtdbhfobnmlogeaaDoor
open Go.V
theorem l02Amount_sat (n : Int) : Sat Tryd.prog 83 [.v (.int .i64 n)] (.v (.bool (deepB n))) := by
  refine sat_of_wp hMix tOk Tryd.func83 rfl rfl Tryd.ntmps83 rfl rfl Tryd.results83 (by kernel_rfl) ?_
  conv => whnf
  repeat (first | (refine go_E2 ?_; conv => whnf) | (refine lk_E2 ?_; conv => whnf))
  first | refine ⟨_, _, rfl, sc_E2 (l00In_sat n 0 1000), ?_⟩ | refine .inl ⟨_, _, rfl, sc_E2 (l00In_sat n 0 1000), ?_⟩
  conv => whnf
  repeat (first | (refine go_E2 ?_; conv => whnf) | (refine lk_E2 ?_; conv => whnf))
  first | refine ⟨rfl, _, rfl, ?_⟩ | refine ⟨_, rfl, ?_⟩
  rfl
end Go.Proofs.YtdbhfobnmlogeaaDoor
/- Contracts: how much drips in all and how much a whole tile saves, both sides. -/
set_option linter.unusedVariables false
set_option linter.unusedSimpArgs false
namespace Go.V
/- Words for the walks of this text: their default arguments are tried where they are used. -/
end Go.V
namespace Go.V
end Go.V
namespace Go.Proofs.YtdbhfobnmlogeaaDoor
open Go.V
end Go.Proofs.YtdbhfobnmlogeaaDoor
/- Contracts: the tile that is best made whole; tiles that are made whole until no more than so much drips; the law. -/
set_option linter.unusedVariables false
set_option linter.unusedSimpArgs false
namespace Go.V
end Go.V
namespace Go.Proofs.YtdbhfobnmlogeaaDoor
open Go.V
end Go.Proofs.YtdbhfobnmlogeaaDoor
/- Contracts: tiles that are made whole until no more than so much drips, both sides, and the law. -/
set_option linter.unusedVariables false
set_option linter.unusedSimpArgs false
namespace Go.V
/- Words for the walks of this text: their default arguments are tried where they are used. -/
end Go.V
namespace Go.V
end Go.V
namespace Go.Proofs.YtdbhfobnmlogeaaDoor
open Go.V
end Go.Proofs.YtdbhfobnmlogeaaDoor
/- Numbers as texts, both sides; the text of rain. -/
set_option linter.unusedVariables false
set_option linter.unusedSimpArgs false
namespace Go.V
/- Words for the walks of this text: their default arguments are tried where they are used. -/
end Go.V
namespace Go.V
theorem bloop_eq (b : ByteArray) : ∀ (n i : Nat) (r : List UInt8), b.size - i = n → ByteArray.toList.loop b i r = r.reverse ++ b.data.toList.drop i := by
  intro n
  induction n with
  | zero =>
    intro i r h
    rw [ByteArray.toList.loop, if_neg (by omega)]
    have : b.data.toList.length ≤ i := by show b.data.size ≤ i; have : b.size = b.data.size := rfl; omega
    rw [List.drop_eq_nil_of_le this, List.append_nil]
  | succ n ih =>
    intro i r h
    have hlt : i < b.size := by omega
    rw [ByteArray.toList.loop, if_pos hlt, ih (i + 1) _ (by omega)]
    have hl : i < b.data.toList.length := hlt
    rw [List.drop_eq_getElem_cons hl]
    have hg : b.get! i = b.data.toList[i] := by
      have : b.get! i = b.data[i]! := rfl
      rw [this, getElem!_pos b.data i hlt]; simp
    rw [hg]; simp
theorem toList_eq (b : ByteArray) : b.toList = b.data.toList := by
  have := bloop_eq b _ 0 [] rfl
  simpa [ByteArray.toList] using this
def bsOf (l : List UInt8) : ByteArray := ⟨l.toArray⟩
theorem strOk {a b : ByteArray} (h : a.size + b.size ≤ 1000000000) : ((a.size + b.size : Nat) : Int) ≤ IntKind.i64.max := by
  have : IntKind.i64.max = 9223372036854775807 := rfl
  rw [this]; omega
@[simp] theorem bs_size (l : List UInt8) : (bsOf l).size = l.length := rfl
@[simp] theorem bs_list (l : List UInt8) : (bsOf l).data.toList = l := by simp [bsOf]
theorem bs_toList (l : List UInt8) : (bsOf l).toList = l := by rw [toList_eq, bs_list]
theorem bs_of (b : ByteArray) : b = bsOf b.data.toList := by simp [bsOf]
theorem dec_len {n k : Nat} (h : n < 10 ^ k) (hk : 1 ≤ k) : (Lib.decDigits n).length ≤ k := by
  rw [Lib.decDigits_length]
  induction k generalizing n with
  | zero => omega
  | succ k ih =>
    by_cases hn : n < 10
    · rw [Lib.nDigits_small hn]; omega
    · rw [Lib.nDigits_big hn]
      have hk1 : 1 ≤ k := by
        cases k with
        | zero => simp at h; omega
        | succ k => omega
      have := ih (n := n / 10) (by rw [Nat.pow_succ] at h; omega) hk1
      omega
def decB (n : Int) : ByteArray := bsOf (Lib.itoa n)
theorem decB_nn {n : Int} (h : 0 ≤ n) : decB n = bsOf (Lib.decDigits n.toNat) := by unfold decB Lib.itoa; rw [if_neg (by omega)]
def qS (q : Nat → ByteArray) (n : Nat) : List ByteArray := (List.range n).map q
@[simp] theorem qS_len (q : Nat → ByteArray) (n : Nat) : (qS q n).length = n := by simp [qS]
end Go.V
namespace Go.Proofs.YtdbhfobnmlogeaaDoor
open Go.V
end Go.Proofs.YtdbhfobnmlogeaaDoor
/- Texts split: the kit's contracts told in this calculus; the reference's own loop. -/
set_option linter.unusedVariables false
set_option linter.unusedSimpArgs false
namespace Go.V
/- Words for the walks of this text: their default arguments are tried where they are used. -/
theorem go_F4 {P Q : Prop} (k : Q) (h : P := by first | exact strOk (by first | omega | (simp; omega)) | exact Nat.le_of_ble_eq_true rfl | exact rfl | decide | omega | (simp [splice]; done) | (constructor <;> omega) | (simp [splice]; omega)) : P ∧ Q := ⟨h, k⟩
theorem leaf_F4 {P : Prop} (h : P := by first | rfl | exact succ8 (by omega) | exact succ64 (by omega) | exact CapOk.fn (by assumption) _ _ | exact vintS (by omega) | exact vintS (by rw [w64 (by omega) (by omega)]; omega) | exact vintS (by rw [w8 (by omega) (by omega)]; omega) | exact vslcS (by omega) | exact vslcS (by simp)) : P := h
theorem hold_F4 {P : Prop} (h : P := by (repeat' (first | exact trivial | apply And.intro)) <;> (first | rfl | exact succ8 (by omega) | exact succ64 (by omega) | exact CapOk.fn (by assumption) _ _ | exact vintS (by omega) | exact vintS (by rw [w64 (by omega) (by omega)]; omega) | exact vintS (by rw [w8 (by omega) (by omega)]; omega) | exact vslcS (by omega) | exact vslcS (by simp))) : P := h
end Go.V
namespace Go.V
section
open Go.Lib
/-- A text split at each such byte. -/
def spl (c : UInt8) : List UInt8 → List (List UInt8)
  | [] => [[]]
  | b :: l => if b = c then [] :: spl c l else (match spl c l with | x :: xs => (b :: x) :: xs | [] => [[b]])
theorem spl_ne (c : UInt8) (l : List UInt8) : spl c l ≠ [] := by
  cases l with
  | nil => simp [spl]
  | cons b l => simp only [spl]; split <;> (try split) <;> simp
theorem spl_hit {c : UInt8} {l : List UInt8} : spl c (c :: l) = [] :: spl c l := by rw [spl, if_pos rfl]
theorem spl_miss {b c : UInt8} {l x : List UInt8} {xs : List (List UInt8)} (h : b ≠ c) (hs : spl c l = x :: xs) : spl c (b :: l) = (b :: x) :: xs := by
  rw [spl, if_neg h, hs]
/-- A piece with no such byte, then the byte. -/
theorem spl_part {c : UInt8} : ∀ {x l : List UInt8}, (∀ b ∈ x, b ≠ c) → spl c (x ++ c :: l) = x :: spl c l
  | [], l, _ => spl_hit
  | b :: x, l, h => by
    rw [List.cons_append]
    exact spl_miss (h b (by simp)) (spl_part fun y hy => h y (by simp [hy]))
theorem spl_last {c : UInt8} : ∀ {x : List UInt8}, (∀ b ∈ x, b ≠ c) → spl c x = [x]
  | [], _ => rfl
  | b :: x, h => spl_miss (h b (by simp)) (spl_last fun y hy => h y (by simp [hy]))
theorem spl_len (c : UInt8) : ∀ l : List UInt8, (spl c l).length = count l [c] + 1
  | [] => by simp [spl, count_one]
  | b :: l => by
    by_cases h : b = c
    · subst h; rw [spl_hit, count_cons_eq]; simp [spl_len b l]; omega
    · have := spl_len c l
      cases hs : spl c l with
      | nil => exact absurd hs (spl_ne c l)
      | cons x xs => rw [spl_miss h hs, count_cons_ne _ _ _ h, ← this, hs]; rfl
theorem idx_cons_eq (c : UInt8) (l : List UInt8) : index (c :: l) [c] = 0 := by simp [index]
theorem idx_cons_ne {b c : UInt8} {l : List UInt8} (h : b ≠ c) : index (b :: l) [c] = if index l [c] == -1 then -1 else index l [c] + 1 := by
  rw [index]; simp [Ne.symm h]
theorem idx_none {c : UInt8} : ∀ {l : List UInt8}, index l [c] = -1 → ∀ b ∈ l, b ≠ c
  | [], _, b, hb => by simp at hb
  | a :: l, h, b, hb => by
    by_cases ha : a = c
    · subst ha; rw [idx_cons_eq] at h; omega
    · rw [idx_cons_ne ha] at h
      have h2 : index l [c] = -1 := by
        have := index_ge l [c]
        by_cases h3 : index l [c] = -1
        · exact h3
        · simp [h3] at h; omega
      rcases List.mem_cons.1 hb with rfl | hb
      · exact ha
      · exact idx_none h2 b hb
theorem idx_some {c : UInt8} : ∀ {l : List UInt8} {i : Nat}, index l [c] = i → ∃ x r, l = x ++ c :: r ∧ x.length = i ∧ ∀ b ∈ x, b ≠ c
  | [], i, h => by simp [index] at h
  | a :: l, i, h => by
    by_cases ha : a = c
    · subst ha; rw [idx_cons_eq] at h
      exact ⟨[], l, rfl, by simp; omega, by simp⟩
    · rw [idx_cons_ne ha] at h
      by_cases h3 : index l [c] = -1
      · simp [h3] at h
      · have hg := index_ge l [c]
        rw [if_neg (by simpa using h3)] at h
        obtain ⟨x, r, h4, h5, h6⟩ := idx_some (c := c) (l := l) (i := i - 1) (by omega)
        refine ⟨a :: x, r, by rw [h4]; rfl, by simp; omega, ?_⟩
        intro b hb
        rcases List.mem_cons.1 hb with rfl | hb
        · exact ha
        · exact h6 b hb
/-- The kit's words for a split at one byte. -/
theorem splitK_one (c : UInt8) : ∀ (k : Nat) (l : List UInt8), count l [c] = k → splitK [c] 0 k l = spl c l
  | 0, l, h => by
    have h0 : ∀ b ∈ l, b ≠ c := by
      rw [count_one, List.count_eq_zero] at h
      exact fun b hb e => h (e ▸ hb)
    rw [splitK, spl_last h0]
  | k + 1, l, h => by
    rw [splitK]
    by_cases h1 : index l [c] = -1
    · have := idx_none h1
      have h0 : count l [c] = 0 := by rw [count_one, List.count_eq_zero]; exact fun hc => this c hc rfl
      omega
    · have hg := index_ge l [c]
      obtain ⟨i, hi⟩ : ∃ i : Nat, index l [c] = i := ⟨(index l [c]).toNat, by omega⟩
      obtain ⟨x, r, rfl, h5, h6⟩ := idx_some hi
      rw [if_neg (by simpa using h1), hi, spl_part h6]
      have h7 : count r [c] = k := by
        rw [count_one, List.count_append, List.count_cons_self] at h
        have : List.count c x = 0 := by rw [List.count_eq_zero]; exact fun hc => h6 c hc rfl
        rw [count_one]; omega
      have e1 : (((i : Nat) : Int)).toNat = x.length := by simp [h5]
      rw [e1]
      rw [List.length_singleton, show (x ++ c :: r).drop (x.length + 1) = r by rw [← List.drop_drop]; simp, splitK_one c k r h7]
      simp
end
theorem split_bs (c : UInt8) (l : List UInt8) : Lib.splitB (bsOf [c]) 0 (Lib.countB (bsOf l) (bsOf [c])) (bsOf l) = (spl c l).map bsOf := by
  have h := Lib.splitB_data (bsOf [c]) 0 (Lib.countB (bsOf l) (bsOf [c])) (bsOf l)
  simp only [bs_list] at h
  have hc : Lib.countB (bsOf l) (bsOf [c]) = Lib.count l [c] := by unfold Lib.countB; simp only [bs_list]
  rw [hc] at h ⊢
  rw [splitK_one c _ l rfl] at h
  rw [← h, List.map_map]
  have : (bsOf ∘ fun x : ByteArray => x.data.toList) = id := by funext b; exact (bs_of b).symm
  rw [this, List.map_id]
theorem resRep_new {w : World} {xs : List Value} {e : TypeId} (hx : Flat (.agg ⟨xs⟩) = true) :
    ∃ loc, ResRep (w.alloc (.cells ⟨xs⟩ e)) w.heap.size (.row true 1 (.v (.agg ⟨xs⟩)) xs.length) (.slice (some ⟨w.heap.size, 0, none⟩) xs.length xs.length) loc := by
  have hk : (w.alloc (.cells ⟨xs⟩ e)).heap[w.heap.size]? = some (.cells ⟨xs⟩ e (0, 0)) := by
    show (w.heap.push _)[w.heap.size]? = _
    simp
  have hs : (w.alloc (.cells ⟨xs⟩ e)).heap.size = w.heap.size + 1 := by
    show (w.heap.push _).size = _
    simp
  refine ⟨fun id => if id = (0, 0, 0) then some (some w.heap.size, xs.length) else none, rfl, ?_, ?_, ?_, ?_, ?_⟩
  · show Rep _ _ _ (.slc true 1 (0, 0, 0) 0 xs.length) _
    simp only [Rep]
    refine ⟨_, _, some w.heap.size, xs.length, rfl, Nat.le_refl _, by simp, by omega, fun _ => ⟨trivial, by omega⟩, 0, rfl, fun _ => rfl, fun _ => ⟨rfl, _, _, _, hk, by simp⟩⟩
  · intro id b n h
    split at h
    · simp only [Option.some.injEq, Prod.mk.injEq] at h; rw [hs]; omega
    · cases h
  · intro id l h
    split at h
    · rename_i he; subst he; exact ⟨rfl, rfl, rfl⟩
    · cases h
  · intro id id' b n n' h h'
    split at h
    · rename_i he
      split at h'
      · rename_i he'; rw [he, he']
      · cases h'
    · cases h
  · intro j c h
    cases j with
    | zero =>
      simp only [tops, impC, List.getElem?_cons_zero, rowC, Option.some.injEq] at h
      subst h
      refine ⟨some w.heap.size, xs, by simp, by simp [Rep, hx], ⟨xs⟩, e, hk, by simp, by simp⟩
    | succ j => simp [tops, impC] at h
theorem resRep_tup {w : World} {B : Nat} {xs : List Value} (hx : xs.all Flat = true) : ResRep w B (.tup (xs.map .v)) (.tuple ⟨xs⟩) noLoc := by
  have hrep : ∀ (ys : List Value) (j : Nat), ys.all Flat = true → RepL w B noLoc (impL 0 0 j (ys.map .v)) ys := by
    intro ys
    induction ys with
    | nil => intro j _; simp [impL, RepL]
    | cons y ys ih =>
      intro j h
      simp only [List.all_cons, Bool.and_eq_true] at h
      simp only [List.map_cons, impL, impD, RepL]
      exact ⟨y, ys, rfl, by simp [Rep, h.1], ih _ h.2⟩
  have hno : ∀ j, impC (xs.map D.v) j = none := by
    intro j
    unfold impC
    rw [List.getElem?_map]
    cases xs[j]? <;> rfl
  refine ⟨?_, ?_, ?_, ?_, ?_, ?_⟩
  · show cleanL (xs.map D.v) = true
    induction xs with
    | nil => rfl
    | cons x xs ih =>
      simp only [List.all_cons, Bool.and_eq_true] at hx
      simp only [List.map_cons, cleanL, clean, Bool.true_and]
      refine ih hx.2 fun j => ?_
      have := hno (j + 1)
      simpa [impC] using this
  · show Rep _ _ _ (.tup (impL 0 0 0 (xs.map .v))) _
    rw [Rep]
    exact ⟨xs, rfl, hrep xs 0 hx⟩
  · intro id b n h; simp [noLoc] at h
  · intro id l h; simp [noLoc] at h
  · intro id id' b n n' h; simp [noLoc] at h
  · intro j c h
    have := hno j
    simp only [tops] at h
    rw [this] at h; cases h
theorem Sat.of_calls_tup {P : Program} {g : FuncId} {args : List D} {xs : List Value} (hx : xs.all Flat = true) (hfn : ∃ fn c, P.funcs[g]? = some fn ∧ fn.body = some c ∧ (fn.name == "runtime.NumGoroutine") = false)
    (h : ∀ w vs, GlobOk w noLoc → RepL w w.heap.size noLoc args vs → Calls P g ⟨vs⟩ w fun e w' => e = .returned (.tuple ⟨xs⟩) ∧ RowKit.Below w.heap.size w w') : Sat P g args (.tup (xs.map .v)) := by
  refine ⟨hfn, fun w vs hg hr => (h w vs hg hr).mono ?_⟩
  rintro e w' ⟨rfl, hb⟩
  exact ⟨_, noLoc, rfl, hb, resRep_tup hx⟩
theorem maxLen_of {w : World} {g : Nat} (h : ∃ xs, (∃ m : Int, xs = [Value.int .i64 m]) ∧ Cells w g xs ∧ noLoc.avoids g) : ∃ m : Int, w.cell? ⟨g, 0, none⟩ = some (.int .i64 m) := by
  obtain ⟨xs, ⟨m, rfl⟩, ⟨e, fr, hk⟩, _⟩ := h
  exact ⟨m, by simp [World.cell?, hk]⟩
theorem flat_strs (ws : List ByteArray) : Flat (.agg ⟨strsC ws⟩) = true := by
  show (strsC ws).all Value.oneCell' = true
  rw [List.all_eq_true, strsC_def]
  intro x hx
  obtain ⟨b, _, rfl⟩ := List.mem_map.1 hx
  rfl
theorem bs_extract (l : List UInt8) (a b : Nat) : (bsOf l).extract a b = bsOf ((l.drop a).take (b - a)) := by
  apply ByteArray.ext
  simp [bsOf, ByteArray.data_extract]
theorem byteAt_bs (l : List UInt8) (i : Nat) : byteAt (bsOf l) i = ((l.getD i 0).toNat : Int) := by unfold byteAt; rw [bs_list]
/-- What the reference's loop keeps: xs are the pieces that are done, one begins at b. -/
structure SplOk (c : UInt8) (l : List UInt8) (i b : Nat) (xs : List (List UInt8)) : Prop where
  le : b ≤ i ∧ i ≤ l.length
  no : ∀ j, b ≤ j → j < i → l[j]? ≠ some c
  eq : xs ++ spl c (l.drop b) = spl c l
  len : xs.length ≤ i
theorem SplOk.zero (c : UInt8) (l : List UInt8) : SplOk c l 0 0 [] := ⟨by omega, fun j h1 h2 => by omega, by simp, by simp⟩
theorem SplOk.piece {c : UInt8} {l : List UInt8} {i b : Nat} {xs : List (List UInt8)} (h : SplOk c l i b xs) : ∀ x ∈ (l.drop b).take (i - b), x ≠ c := by
  intro x hx e
  obtain ⟨j, hj⟩ := List.getElem?_of_mem hx
  rw [List.getElem?_take] at hj
  split at hj
  · rw [List.getElem?_drop] at hj
    exact h.no (b + j) (by omega) (by omega) (by rw [hj, e])
  · cases hj
theorem SplOk.hit {c : UInt8} {l : List UInt8} {i b : Nat} {xs : List (List UInt8)} (h : SplOk c l i b xs) (hi : l[i]? = some c) : SplOk c l (i + 1) (i + 1) (xs ++ [(l.drop b).take (i - b)]) := by
  have hl : i < l.length := (List.getElem?_eq_some_iff.1 hi).1
  have hle := h.le
  refine ⟨by omega, fun j h1 h2 => by omega, ?_, by have := h.len; simp; omega⟩
  rw [← h.eq, List.append_assoc]
  congr 1
  have e : l.drop b = (l.drop b).take (i - b) ++ c :: l.drop (i + 1) := by
    have e1 : (l.drop b).drop (i - b) = l.drop i := by rw [List.drop_drop]; congr 1; omega
    have e2 : l.drop i = c :: l.drop (i + 1) := by
      rw [List.drop_eq_getElem_cons hl]
      congr 1
      rw [List.getElem?_eq_getElem hl] at hi
      exact Option.some.inj hi
    rw [← e2, ← e1, List.take_append_drop]
  conv => rhs; rw [e]
  rw [spl_part h.piece]; rfl
theorem SplOk.miss {c : UInt8} {l : List UInt8} {i b : Nat} {xs : List (List UInt8)} (h : SplOk c l i b xs) (hl : i < l.length) (hi : l[i]? ≠ some c) : SplOk c l (i + 1) b xs := by
  have hle := h.le
  refine ⟨by omega, fun j h1 h2 => ?_, h.eq, by have := h.len; omega⟩
  by_cases e : j = i
  · subst e; exact hi
  · exact h.no j h1 (by omega)
theorem SplOk.done {c : UInt8} {l : List UInt8} {b : Nat} {xs : List (List UInt8)} (h : SplOk c l l.length b xs) : xs ++ [l.drop b] = spl c l := by
  have hp := h.piece
  rw [List.take_of_length_le (by simp)] at hp
  rw [← h.eq, spl_last hp]
theorem byte_eq {l : List UInt8} {i : Nat} {c : UInt8} (hi : i < l.length) : (byteAt (bsOf l) i == (c.toNat : Int)) = decide (l[i]? = some c) := by
  rw [byteAt_bs, List.getD_eq_getElem?_getD, List.getElem?_eq_getElem hi]
  rw [Bool.eq_iff_iff]
  simp only [Option.getD_some, beq_iff_eq, decide_eq_true_eq, Option.some.injEq]
  constructor
  · intro h; exact UInt8.toNat_inj.1 (by omega)
  · intro h; rw [h]
end Go.V
namespace Go.Proofs.YtdbhfobnmlogeaaDoor
open Go.V
theorem split_sat (l : List UInt8) (hl : l.length ≤ 1048576) (c : UInt8) : Sat Tryd.prog 84 [.v (.string (bsOf l)), .v (.string (bsOf [c]))] (strsD true ((spl c l).map bsOf)) := by
  refine ⟨⟨_, _, Tryd.func84, rfl, rfl⟩, fun w vs hg hr => ?_⟩
  obtain rfl := repL_v (xs := [.string (bsOf l), .string (bsOf [c])]) hr
  obtain ⟨m, hm⟩ := maxLen_of (hg.any 0 _ rfl)
  refine (Tryd.strings_Split (bsOf l) (bsOf [c]) m w (by simp; omega) hm (by simp)).mono ?_
  rintro e w' ⟨rfl, rfl⟩
  have hlen : Lib.countB (bsOf l) (bsOf [c]) + 1 = (strsC ((spl c l).map bsOf)).length := by
    rw [strsC_len, List.length_map, spl_len]; unfold Lib.countB; simp only [bs_list]
  rw [split_bs, hlen]
  obtain ⟨loc, hres⟩ := resRep_new (w := w) (xs := strsC ((spl c l).map bsOf)) (e := 9) (flat_strs _)
  refine ⟨_, loc, rfl, ?_, ?_⟩
  · exact ⟨rfl, rfl, rfl, by simp, fun k hk => by
      show (w.heap.push _)[k]? = _
      rw [Array.getElem?_push, if_neg (Nat.ne_of_lt hk)]⟩
  · have e1 : ((strsC ((spl c l).map bsOf)).toArray) = ⟨strsC ((spl c l).map bsOf)⟩ := rfl
    unfold strsD
    rw [strsC_len] at hres ⊢
    rw [← strsC_def]
    exact hres
theorem l01Split_sat (l : List UInt8) (hl : l.length ≤ 1048576) (c : UInt8) : Sat Tryd.prog 54 [.v (.string (bsOf l)), .v (.int .u8 (c.toNat : Int))] (strsD true ((spl c l).map bsOf)) := by
  refine sat_of_wp hMix tOk Tryd.func54 rfl rfl Tryd.ntmps54 rfl rfl Tryd.results54 (by kernel_rfl) ?_
  conv => whnf
  repeat (first | (refine go_F4 ?_; conv => whnf))
  refine loop_rule (α := Nat × Nat × List (List UInt8)) (fun z => [(0, .v (.string (bsOf l))), (1, .v (.int .u8 (c.toNat : Int))), (5, .slc true 1 (26, 0, 0) 0 (z.2.2.map bsOf).length), (6, .v (.int .i64 (z.2.1 : Nat))), (7, .v (.int .i64 (z.1 : Nat)))]) (fun z => [((26, 0, 0), .v (.agg ⟨strsC (z.2.2.map bsOf)⟩))]) (fun z => SplOk c l z.1 z.2.1 z.2.2) (fun z => l.length - z.1) ((0, 0, [])) ?_ (sim_of (rn := [((26, 0, 0), (8, 0, 0))]) rfl ?_ ?_) ?_
  · exact SplOk.zero c l
  · exact hold_F4
  · ((repeat' (first | exact trivial | apply And.intro)) <;> ((first | refine ⟨_, _, rfl, rfl, ?_⟩ ); first | rfl | (exact cset (show [] = strsC [] from strsC_nil.symm))))
  rintro ⟨i, b, xs⟩ hok
  dsimp only at hok ⊢
  have hi := hok.le
  conv => whnf
  repeat (first | (refine go_F4 ?_; conv => whnf))
  cases h1 : decide ((i : Int) < ((bsOf l).size : Int))
  · have h8 : i = l.length := by simp at h1; omega
    subst h8
    have hxl := hok.len
    have hd := hok.done
    have hml : (List.map bsOf xs).length ≤ 1048576 := by simp; omega
    have hex : (bsOf l).extract b l.length = bsOf (l.drop b) := by rw [bs_extract, List.take_of_length_le (by simp)]
    conv => whnf
    refine ⟨by show (0 : Int) ≤ (b : Nat) ∧ ((b : Nat) : Int) ≤ ((bsOf l).size : Int) ∧ ((bsOf l).size : Int) ≤ ((bsOf l).size : Int); simp; omega, ?_⟩
    conv => whnf
    repeat (first | (refine go_F4 ?_; conv => whnf))
    first | refine ⟨rfl, _, rfl, ?_⟩ | refine ⟨_, rfl, ?_⟩
    skip
    unfold strsD
    rw [← hd, List.map_append, strsC_append, List.map_singleton, strsC_one, List.length_append]
    show _ = D.row true 1 (.v (.agg ⟨strsC (xs.map bsOf) ++ [.string ((bsOf l).extract b l.length)]⟩)) _
    rw [hex]; rfl
  have h8 : i < l.length := by simpa using h1
  have hxl := hok.len
  have hml : (List.map bsOf xs).length ≤ 1048576 := by simp; omega
  conv => whnf
  repeat (first | (refine go_F4 ?_; conv => whnf))
  rw [show byteAt (bsOf l) (i : Int).toNat = byteAt (bsOf l) i by rw [Int.toNat_natCast], byte_eq h8]
  cases h2 : decide (l[i]? = some c)
  · have hno : l[i]? ≠ some c := by simpa using h2
    conv => whnf
    repeat (first | (refine go_F4 ?_; conv => whnf))
    refine ⟨(i + 1, b, xs), ?_, ?_, sim_of (rn := [((26, 0, 0), (26, 0, 0))]) rfl ?_ ?_⟩
    · (dsimp only; omega)
    · exact hok.miss h8 hno
    · exact hold_F4
    · ((repeat' (first | exact trivial | apply And.intro)) <;> ((first | refine ⟨_, _, rfl, rfl, ?_⟩ ); rfl))
  · have hyes : l[i]? = some c := by simpa using h2
    have hex : (bsOf l).extract b i = bsOf ((l.drop b).take (i - b)) := bs_extract l b i
    have hh := hok.hit hyes
    conv => whnf
    refine ⟨by show (0 : Int) ≤ (b : Nat) ∧ ((b : Nat) : Int) ≤ ((i : Nat) : Int) ∧ ((i : Nat) : Int) ≤ ((bsOf l).size : Int); simp; omega, ?_⟩
    conv => whnf
    repeat (first | (refine go_F4 ?_; conv => whnf))
    have ec : strsC (List.map bsOf xs) ++ [.string ((bsOf l).extract b i)] = strsC (List.map bsOf (xs ++ [(l.drop b).take (i - b)])) := by rw [hex, List.map_append, strsC_append, List.map_singleton, strsC_one]
    refine ⟨(i + 1, i + 1, xs ++ [(l.drop b).take (i - b)]), ?_, ?_, sim_of (rn := [((26, 0, 0), (26, 1, 0))]) rfl ?_ ?_⟩
    · (dsimp only; omega)
    · exact hh
    · ((repeat' (first | exact trivial | apply And.intro)) <;> (first | rfl | (exact vslcS (by simp)) | exact leaf_F4))
    · ((repeat' (first | exact trivial | apply And.intro)) <;> ((first | refine ⟨_, _, rfl, rfl, ?_⟩ ); first | rfl | (exact cset ec)))
end Go.Proofs.YtdbhfobnmlogeaaDoor
/- Numbers read from their text: the program's word for it, by the kit's contracts. -/
set_option linter.unusedVariables false
set_option linter.unusedSimpArgs false
namespace Go.V
/- Words for the walks of this text: their default arguments are tried where they are used. -/
theorem go_F7 {P Q : Prop} (k : Q) (h : P := by first  | exact rfl | decide | omega | (simp [splice]; done) | (constructor <;> omega) | (simp [splice]; omega)) : P ∧ Q := ⟨h, k⟩
theorem sc_F7 {P : Program} {g : FuncId} {args args' : List D} {res : D} (h : Sat P g args res) (e : args' = args := by repeat (first | rfl | exact vfull (by first | (simp [splice]; done) | (simp [splice]; omega)) | exact rfull (by first | (simp [splice]; done) | (simp [splice]; omega))  | refine ceq ?_ ?_ )) : Sat P g args' res := Sat.of_eq h e
end Go.V
namespace Go.V
theorem GlobOk.below {w w' : World} (h : GlobOk w noLoc) (hb : RowKit.Below w.heap.size w w') : GlobOk w' noLoc := by
  have key : ∀ g xs, Cells w g xs → Cells w' g xs := fun g xs ⟨e, fr, hk⟩ => by
    have hlt : g < w.heap.size := by
      by_cases hg : g < w.heap.size
      · exact hg
      · rw [Array.getElem?_eq_none (by omega)] at hk; cases hk
    exact ⟨e, fr, by rw [hb.block g hlt, hk]⟩
  exact ⟨fun g xs hg => ⟨key g xs (h.tab g xs hg).1, fun _ _ => by simp [noLoc]⟩, fun g Q hg => by
    obtain ⟨xs, h1, h2, _⟩ := h.any g Q hg
    exact ⟨xs, h1, key g xs h2, fun _ _ => by simp [noLoc]⟩⟩
end Go.V
namespace Go.Proofs.YtdbhfobnmlogeaaDoor
open Go.V Go.RowKit
theorem rdW {w w' : World} (h : w' = w ∨ ∃ t, w' = Lib.bytesWorld w 5 t) : Below w.heap.size w w' := by
  rcases h with rfl | ⟨t, rfl⟩
  · exact Below.refl _ _
  · exact Joins.below_bytesWorld _ _ _ _ (Nat.le_refl _)
set_option maxRecDepth 100000 in
theorem rd_ok (s : ByteArray) (hs : s.size ≤ 1048576) (v : Int) (hv : Lib.parseIntB 64 s.data.toList = .ok v) (w : World) (hd : ∀ w1, Below w.heap.size w w1 → Calls Tryd.prog 138 #[.int .i64 v] w1 fun e w' => e = .returned (.string (decB v)) ∧ Below w1.heap.size w1 w') :
    Calls Tryd.prog 85 #[.string s] w fun e w' => e = .returned (.tuple #[.int .i64 v, .bool (decide (v ≥ 0) && ((decB v).toList == s.toList))]) ∧ Below w.heap.size w w' := by
  go_enter Tryd.func85, Tryd.ntmps85
  go_wp2_with (first
    | (go_at_call 137; refine (Tryd.strconv_ParseInt_10_at64_ok s (by omega) v hv _).mono ?_; rintro e w' ⟨rfl, hw⟩)
    | (go_at_call 138; refine (hd _ (rdW (by assumption))).mono ?_; rintro e w' ⟨rfl, hb⟩))
  · have hw' := rdW hw
    go_ret2
    refine ⟨by rw [decide_eq_true (show v ≥ 0 by omega)]; rfl, hw'.trans (hb.mono hw'.size)⟩
  · have hw' := rdW hw
    go_ret2
    exact ⟨by rw [decide_eq_false (show ¬ v ≥ 0 by omega)]; rfl, hw'⟩
theorem rd_syn (s : ByteArray) (hs : s.size ≤ 1048576) (hv : Lib.parseIntB 64 s.data.toList = Lib.NumEnd.syntax) (w : World) (ev : Value) (hev : w.cell? ⟨2, 0, none⟩ = some ev) (hi : ev = .nilIface ∨ ∃ te pe, ev = .iface te pe) :
    Calls Tryd.prog 85 #[.string s] w fun e w' => e = .returned (.tuple #[.int .i64 0, .bool false]) ∧ Below w.heap.size w w' := by
  go_enter Tryd.func85, Tryd.ntmps85
  go_wp2_with (first
    | (go_at_call 137; refine (Tryd.strconv_ParseInt_10_at64_syntax s (by omega) hv ev _ hev hi).mono ?_; rintro e w' ⟨N, rfl, hN, hc, hb⟩))
  go_ret2
  exact ⟨rfl, hb⟩
theorem rd_rng (s : ByteArray) (hs : s.size ≤ 1048576) (hv : Lib.parseIntB 64 s.data.toList = .range) (w : World) (ev : Value) (hev : w.cell? ⟨3, 0, none⟩ = some ev) (hi : ev = .nilIface ∨ ∃ te pe, ev = .iface te pe) :
    Calls Tryd.prog 85 #[.string s] w fun e w' => e = .returned (.tuple #[.int .i64 (Lib.intSat 64 s.data.toList), .bool false]) ∧ Below w.heap.size w w' := by
  go_enter Tryd.func85, Tryd.ntmps85
  go_wp2_with (first
    | (go_at_call 137; refine (Tryd.strconv_ParseInt_10_at64_range s (by omega) hv ev _ hev hi).mono ?_; rintro e w' ⟨N, rfl, hN, hc, hb⟩))
  go_ret2
  exact ⟨rfl, hb⟩
theorem dec64_sat (n : Int) (hn : -9223372036854775808 ≤ n ∧ n ≤ 9223372036854775807) : Sat Tryd.prog 138 [.v (.int .i64 n)] (.v (.string (decB n))) := by
  refine sat_of_wp hMix tOk Tryd.func138 rfl rfl Tryd.ntmps138 rfl rfl Tryd.results138 (by kernel_rfl) ?_
  conv => whnf
  repeat (first | (refine go_F7 ?_; conv => whnf))
  try rw [show IntKind.i64.wrap n = n from w64 (by omega) (by omega)]
  first | refine ⟨_, _, rfl, sc_F7 (formatInt_sat n (by omega) (by omega)), ?_⟩ | refine .inl ⟨_, _, rfl, sc_F7 (formatInt_sat n (by omega) (by omega)), ?_⟩
  conv => whnf
  repeat (first | (refine go_F7 ?_; conv => whnf))
  first | refine ⟨rfl, _, rfl, ?_⟩ | refine ⟨_, rfl, ?_⟩
  rfl
/-- What is read of a text, and whether it is a number's. -/
def rdN (l : List UInt8) : Int := match Lib.parseIntB 64 l with | .ok v => v | Lib.NumEnd.syntax => 0 | .range => Lib.intSat 64 l
def rdB (l : List UInt8) : Bool := match Lib.parseIntB 64 l with | .ok v => decide (v ≥ 0) && ((decB v).toList == (bsOf l).toList) | _ => false
theorem parse_in {l : List UInt8} {v : Int} (h : Lib.parseIntB 64 l = .ok v) : -9223372036854775808 ≤ v ∧ v ≤ 9223372036854775807 := by
  cases l with
  | nil => simp [Lib.parseIntB] at h
  | cons c r =>
    simp only [Lib.parseIntB] at h
    split at h
    · cases h
    · cases h
    · rename_i u hu
      split at h
      · cases h
      · split at h
        · cases h
        · rename_i h1 h2
          simp only [Lib.NumEnd.ok.injEq] at h
          subst h
          split <;> rename_i h3 <;> simp [h3] at h1 h2 <;> omega
theorem readDec_sat (l : List UInt8) (hl : l.length ≤ 1048576) : Sat Tryd.prog 85 [.v (.string (bsOf l))] (.tup ([.int .i64 (rdN l), .bool (rdB l)].map .v)) := by
  refine Sat.of_calls_tup rfl ⟨_, _, Tryd.func85, rfl, rfl⟩ fun w vs hg hr => ?_
  obtain rfl := repL_v (xs := [.string (bsOf l)]) hr
  have hs : (bsOf l).size ≤ 1048576 := hl
  have e : (bsOf l).data.toList = l := bs_list l
  unfold rdN rdB
  match hp : Lib.parseIntB 64 l with
  | Lib.NumEnd.ok v =>
    refine rd_ok (bsOf l) hs v (by rw [e]; exact hp) w fun w1 hb1 => ?_
    have hv := parse_in hp
    refine ((dec64_sat v hv).2 w1 [.int .i64 v] (hg.below hb1) ⟨_, _, rfl, ⟨rfl, rfl⟩, rfl⟩).mono ?_
    rintro e' w' ⟨y, loc, rfl, hb, hres⟩
    have h1 : Rep w' w1.heap.size loc (.v (.string (decB v))) y := hres.rep
    simp only [Rep] at h1
    exact ⟨by rw [h1.1], hb⟩
  | Lib.NumEnd.syntax =>
    obtain ⟨xs, ⟨t, p, rfl⟩, ⟨e1, fr, hk⟩, _⟩ := hg.any 2 _ rfl
    exact rd_syn (bsOf l) hs (by rw [e]; exact hp) w (.iface t p) (by simp [World.cell?, hk]) (.inr ⟨_, _, rfl⟩)
  | Lib.NumEnd.range =>
    obtain ⟨xs, ⟨t, p, rfl⟩, ⟨e1, fr, hk⟩, _⟩ := hg.any 3 _ rfl
    have := rd_rng (bsOf l) hs (by rw [e]; exact hp) w (.iface t p) (by simp [World.cell?, hk]) (.inr ⟨_, _, rfl⟩)
    rw [e] at this
    exact this
end Go.Proofs.YtdbhfobnmlogeaaDoor
/- Colours read from their text: plain words, both sides, and the law. -/
set_option linter.unusedVariables false
set_option linter.unusedSimpArgs false
namespace Go.V
/- Words for the walks of this text: their default arguments are tried where they are used. -/
end Go.V
namespace Go.V
/-! Colours in lines. -/
theorem sx_map (M : List (List UInt8)) (i : Nat) : sx (M.map bsOf) i = bsOf (M.getD i []) := by
  unfold sx
  rw [List.getD_eq_getElem?_getD, List.getElem?_map, List.getD_eq_getElem?_getD]
  cases M[i]? <;> rfl
theorem byteIs {x : List UInt8} {k : Nat} (c : Nat) (hc : c < 256) : (byteAt (bsOf x) k == (c : Int)) = decide (x.getD k 0 = UInt8.ofNat c) := by
  rw [byteAt_bs, Bool.eq_iff_iff]
  simp only [beq_iff_eq, decide_eq_true_eq]
  have e : (UInt8.ofNat c).toNat = c := by simp [UInt8.toNat_ofNat']; omega
  constructor
  · intro h; exact UInt8.toNat_inj.1 (by omega)
  · intro h; rw [h]; omega
end Go.V
namespace Go.Proofs.YtdbhfobnmlogeaaDoor
open Go.V
end Go.Proofs.YtdbhfobnmlogeaaDoor
