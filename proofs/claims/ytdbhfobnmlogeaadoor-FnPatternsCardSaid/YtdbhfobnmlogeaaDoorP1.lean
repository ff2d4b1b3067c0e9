import Derived.Test.YtdbhfobnmlogeaaDoorVT
set_option linter.unusedVariables false
set_option linter.unusedSimpArgs false
/- Plain words: tables of cells, roofs, places. -/
set_option linter.unusedVariables false
set_option linter.unusedSimpArgs false
namespace Go.V

/-- n cells by a rule. -/
@[irreducible] def tab (n : Nat) (f : Nat → Value) : List Value := (List.range n).map f
theorem tab_def (n : Nat) (f : Nat → Value) : tab n f = (List.range n).map f := by unfold tab; rfl
@[simp] theorem tab_length (n : Nat) (f : Nat → Value) : (tab n f).length = n := by rw [tab_def]; simp
theorem nth_tab {n : Nat} {f : Nat → Value} {i : Nat} (h : i < n) : nth (tab n f) i = some (f i) := by
  rw [nth_eq, tab_def]; simp [h]
theorem tab_get {n : Nat} {f : Nat → Value} {i : Nat} (h : i < n) : (tab n f)[i]? = some (f i) := by
  rw [tab_def]; simp [h]
theorem tab_none {n : Nat} {f : Nat → Value} {i : Nat} (h : n ≤ i) : (tab n f)[i]? = none := by
  rw [List.getElem?_eq_none_iff, tab_length]; exact h
theorem tab_congr {n : Nat} {f g : Nat → Value} (h : ∀ i, i < n → f i = g i) : tab n f = tab n g := by
  rw [tab_def, tab_def]
  apply List.map_congr_left
  intro i hi
  exact h i (by simpa using hi)
theorem tab_sub {n : Nat} {f : Nat → Value} {o m : Nat} (h : o + m ≤ n) : ((tab n f).drop o).take m = tab m fun i => f (o + i) := by
  apply List.ext_getElem?
  intro i
  rw [List.getElem?_take]
  by_cases hi : i < m
  · rw [if_pos hi, List.getElem?_drop, tab_get (by omega), tab_get hi]
  · rw [if_neg hi, tab_none (by omega)]
theorem tab_set {n : Nat} {f : Nat → Value} {i : Nat} {x : Value} : (tab n f).set i x = tab n fun j => if j = i then x else f j := by
  apply List.ext_getElem?
  intro j
  rw [List.getElem?_set]
  by_cases hj : j < n
  · rw [tab_get hj, tab_get hj]
    by_cases h : i = j
    · subst h; simp [hj]
    · simp [h, Ne.symm h]
  · rw [tab_none (by omega), tab_none (by omega)]
    simp only [tab_length]
    split
    · rw [if_neg (by omega)]
    · rfl
theorem w64 {n : Int} (h1 : -9223372036854775808 ≤ n) (h2 : n ≤ 9223372036854775807) : IntKind.i64.wrap n = n := by
  simp only [IntKind.wrap, IntKind.bits, IntKind.signed, Bool.true_and]
  split <;> rename_i h <;> simp at h <;> omega
theorem w8 {n : Int} (h1 : -128 ≤ n) (h2 : n ≤ 127) : IntKind.i8.wrap n = n := by
  simp only [IntKind.wrap, IntKind.bits, IntKind.signed, Bool.true_and]
  split <;> rename_i h <;> simp at h <;> omega
theorem wu8 {n : Int} (h1 : 0 ≤ n) (h2 : n ≤ 255) : IntKind.u8.wrap n = n := by
  simp [IntKind.wrap, IntKind.bits, IntKind.signed]
  omega
theorem wu64 {n : Int} (h1 : 0 ≤ n) (h2 : n ≤ 18446744073709551615) : IntKind.u64.wrap n = n := by
  simp [IntKind.wrap, IntKind.bits, IntKind.signed]
  omega

abbrev i64 (n : Int) : D := .v (.int .i64 n)

structure Roof where
  w : Int
  h : Int
  s : Int
  t : Nat → Nat → Int

structure Roof.In (r : Roof) : Prop where
  w : -128 ≤ r.w ∧ r.w ≤ 127
  h : -128 ≤ r.h ∧ r.h ≤ 127
  s : 0 ≤ r.s ∧ r.s ≤ 255
  t : ∀ c k, 0 ≤ r.t c k ∧ r.t c k ≤ 255

def grid (t : Nat → Nat → Int) : List Value := tab 64 fun i => .int .u8 (t (i / 8) (i % 8))
def roofC (r : Roof) : List Value := .int .i8 r.w :: .int .i8 r.h :: .int .u8 r.s :: grid r.t
def roofD (r : Roof) : D := .v (.agg ⟨roofC r⟩)
def placeD (c k : Int) : D := .v (.agg ⟨[.int .i8 c, .int .i8 k]⟩)

theorem grid_get {t : Nat → Nat → Int} {c k : Nat} (hc : c < 8) (hk : k < 8) : nth (grid t) (c * 8 + k) = some (.int .u8 (t c k)) := by
  unfold grid
  rw [nth_tab (by omega)]
  have h1 : (c * 8 + k) / 8 = c := by omega
  have h2 : (c * 8 + k) % 8 = k := by omega
  rw [h1, h2]
theorem roof_get {r : Roof} {i c k : Nat} (hi : i = 3 + c * 8 + k) (hc : c < 8) (hk : k < 8) : nth (roofC r) i = some (.int .u8 (r.t c k)) := by
  subst hi
  rw [show 3 + c * 8 + k = (c * 8 + k) + 3 by omega]
  exact grid_get hc hk

end Go.V
/- Contracts: bounds, kinds, places. -/
set_option linter.unusedVariables false
set_option linter.unusedSimpArgs false
namespace Go.Proofs.YtdbhfobnmlogeaaDoor
open Go.V

theorem l00In_sat (n lo hi : Int) : Sat Tryd.prog 88 [.v (.int .i64 n), .v (.int .i64 lo), .v (.int .i64 hi)] (.v (.bool (decide (n ≥ lo) && decide (n ≤ hi)))) := by
  refine sat_of_wp hMix tOk Tryd.func88 rfl rfl Tryd.ntmps88 rfl rfl Tryd.results88 (by kernel_rfl) ?_
  conv => whnf
  cases h1 : decide (n ≥ lo)
  · exact ⟨rfl, _, rfl, rfl⟩
  · conv => whnf
    cases h2 : decide (n ≤ hi) <;> exact ⟨rfl, _, rfl, rfl⟩

theorem within8_sat (n lo hi : Int) : Sat Tryd.prog 115 [.v (.int .i8 n), .v (.int .i8 lo), .v (.int .i8 hi)] (.v (.bool (decide (lo ≤ n) && decide (n ≤ hi)))) := by
  refine sat_of_wp hMix tOk Tryd.func115 rfl rfl Tryd.ntmps115 rfl rfl Tryd.results115 (by kernel_rfl) ?_
  conv => whnf
  cases h1 : decide (lo ≤ n)
  · exact ⟨rfl, _, rfl, rfl⟩
  · conv => whnf
    cases h2 : decide (n ≤ hi) <;> exact ⟨rfl, _, rfl, rfl⟩

theorem l01Kind_sat (k : Int) : Sat Tryd.prog 112 [.v (.int .i64 k)] (.v (.bool (decide (k ≥ 0) && decide (k ≤ 3)))) := by
  refine sat_of_wp hMix tOk Tryd.func112 rfl rfl Tryd.ntmps112 rfl rfl Tryd.results112 (by kernel_rfl) ?_
  conv => whnf
  refine ⟨_, _, rfl, l00In_sat _ _ _, ?_⟩
  exact ⟨rfl, _, rfl, rfl⟩

theorem l01Is_sat (r : Roof) (hr : r.In) (c k : Int) (hc : -128 ≤ c ∧ c ≤ 127) (hk : -128 ≤ k ∧ k ≤ 127) :
    Sat Tryd.prog 113 [.ref false (roofD r) 0, placeD c k] (.v (.bool ((decide (c ≥ 0) && decide (c ≤ r.h - 1)) && (decide (k ≥ 0) && decide (k ≤ r.w - 1))))) := by
  have e1 : IntKind.i64.wrap c = c := w64 (by omega) (by omega)
  have e2 : IntKind.i64.wrap k = k := w64 (by omega) (by omega)
  have e3 : IntKind.i64.wrap r.h = r.h := by have := hr.h; exact w64 (by omega) (by omega)
  have e4 : IntKind.i64.wrap r.w = r.w := by have := hr.w; exact w64 (by omega) (by omega)
  have e5 : IntKind.i64.wrap (r.h - 1) = r.h - 1 := by have := hr.h; exact w64 (by omega) (by omega)
  have e6 : IntKind.i64.wrap (r.w - 1) = r.w - 1 := by have := hr.w; exact w64 (by omega) (by omega)
  refine sat_of_wp hMix tOk Tryd.func113 rfl rfl Tryd.ntmps113 rfl rfl Tryd.results113 (by kernel_rfl) ?_
  conv => whnf
  rw [e1, e3, e5]
  refine ⟨_, _, rfl, l00In_sat _ _ _, ?_⟩
  conv => whnf
  cases h1 : (decide (c ≥ 0) && decide (c ≤ r.h - 1))
  · exact ⟨rfl, _, rfl, rfl⟩
  · conv => whnf
    rw [e2, e4, e6]
    refine ⟨_, _, rfl, l00In_sat _ _ _, ?_⟩
    conv => whnf
    cases h2 : (decide (k ≥ 0) && decide (k ≤ r.w - 1)) <;> exact ⟨rfl, _, rfl, rfl⟩
end Go.Proofs.YtdbhfobnmlogeaaDoor
/- Contracts: valid roofs. -/
set_option linter.unusedVariables false
set_option linter.unusedSimpArgs false
namespace Go.V
def cellOk (r : Roof) (c k : Nat) : Bool := decide (r.t c k ≤ 3) && (decide (r.t c k = 0) || (decide ((c : Int) < r.h) && decide ((k : Int) < r.w)))
def okR (r : Roof) : Bool := (decide (r.w ≥ 1) && decide (r.w ≤ 8)) && (decide (r.h ≥ 1) && decide (r.h ≤ 8)) && decide (r.s ≤ 1) && (List.range 8).all fun c => (List.range 8).all fun k => cellOk r c k
end Go.V
namespace Go.Proofs.YtdbhfobnmlogeaaDoor
open Go.V

theorem l01Ok_sat (r : Roof) (hr : r.In) : Sat Tryd.prog 53 [.ref false (roofD r) 0] (.v (.bool (okR r))) := by
  have e3 : IntKind.i64.wrap r.h = r.h := by have := hr.h; exact w64 (by omega) (by omega)
  have e4 : IntKind.i64.wrap r.w = r.w := by have := hr.w; exact w64 (by omega) (by omega)
  refine sat_of_wp hMix tOk Tryd.func53 rfl rfl Tryd.ntmps53 rfl rfl Tryd.results53 (by kernel_rfl) ?_
  conv => whnf
  rw [e4]
  refine ⟨_, _, rfl, l00In_sat _ _ _, ?_⟩
  conv => whnf
  cases h1 : (decide (r.w ≥ 1) && decide (r.w ≤ 8))
  · exact ⟨rfl, _, rfl, by simp only [okR, h1, Bool.false_and]; rfl⟩
  conv => whnf
  rw [e3]
  refine ⟨_, _, rfl, l00In_sat _ _ _, ?_⟩
  conv => whnf
  cases h2 : (decide (r.h ≥ 1) && decide (r.h ≤ 8))
  · exact ⟨rfl, _, rfl, by simp only [okR, h1, h2, Bool.false_and, Bool.and_false]; rfl⟩
  conv => whnf
  cases h3 : (decide (r.s > 1))
  case true => exact ⟨rfl, _, rfl, by
    have : decide (r.s ≤ 1) = false := by simp at h3 ⊢; omega
    simp only [okR, h1, h2, this, Bool.false_and, Bool.and_false]; rfl⟩
  have h3' : decide (r.s ≤ 1) = true := by simp at h3 ⊢; omega
  conv => whnf
  refine loop_rule (α := Nat) (fun c => [(0, .ref false (roofD r) 0), (3, .v (.int .i8 c))]) (fun _ => []) (fun c => c ≤ 8 ∧ ∀ c', c' < c → ∀ k, k < 8 → cellOk r c' k = true) (fun c => 8 - c) 0 ⟨by omega, by omega⟩ (sim_of (rn := []) rfl ⟨rfl, rfl, trivial⟩ trivial) ?_
  rintro c ⟨hc, hall⟩
  conv => whnf
  cases h4 : decide ((c : Int) < 8)
  · conv => whnf
    refine ⟨rfl, _, rfl, ?_⟩
    have hc8 : c = 8 := by simp at h4; omega
    subst hc8
    have : (List.range 8).all (fun c => (List.range 8).all fun k => cellOk r c k) = true := by
      simp only [List.all_eq_true, List.mem_range]
      exact hall
    simp only [okR, h1, h2, h3', this, Bool.and_self]; rfl
  conv => whnf
  have hc8 : c < 8 := by simp at h4; omega
  refine loop_rule (α := Nat) (fun k => [(0, .ref false (roofD r) 0), (3, .v (.int .i8 c)), (4, .v (.int .i8 k))]) (fun _ => []) (fun k => k ≤ 8 ∧ ∀ k', k' < k → cellOk r c k' = true) (fun k => 8 - k) 0 ⟨by omega, by omega⟩ (sim_of (rn := []) rfl ⟨rfl, rfl, rfl, trivial⟩ trivial) ?_
  rintro k ⟨hk, hrow⟩
  conv => whnf
  cases h5 : decide ((k : Int) < 8)
  · conv => whnf
    refine ⟨c + 1, by dsimp only; omega, ⟨by omega, ?_⟩, sim_of (rn := []) rfl ⟨rfl, ?_, trivial⟩ trivial⟩
    · intro c' hc' k' hk'
      by_cases h : c' = c
      · subst h; exact hrow k' (by simp at h5; omega)
      · exact hall c' (by omega) k' hk'
    · show some _ = some _
      congr 1
      exact vint (by rw [w8 (by omega) (by omega)]; omega)
  conv => whnf
  have hk8 : k < 8 := by simp at h5; omega
  refine ⟨⟨by omega, by omega⟩, ?_⟩
  conv => whnf
  refine ⟨⟨by omega, by omega⟩, ?_⟩
  conv => whnf
  have ht := hr.t c k
  have e5 : IntKind.i64.wrap (r.t c k) = r.t c k := w64 (by omega) (by omega)
  have g1 : nth (roofC r) (0 + 3 + (c : Int).toNat * 8 + (k : Int).toNat * 1) = some (.int .u8 (r.t c k)) := roof_get (by omega) hc8 hk8
  refine optK_of g1 ?_
  conv => whnf
  rw [e5]
  refine ⟨_, _, rfl, l01Kind_sat _, ?_⟩
  conv => whnf
  have hno : ∀ b, cellOk r c k = b → (b = false → okR r = false) ∧ (b = true → ∀ k', k' < k + 1 → cellOk r c k' = true) := by
    rintro b rfl
    refine ⟨fun h => ?_, fun h k' hk' => ?_⟩
    · have : (List.range 8).all (fun c => (List.range 8).all fun k => cellOk r c k) = false := by
        rw [List.all_eq_false]
        refine ⟨c, by simpa using hc8, ?_⟩
        rw [Bool.not_eq_true, List.all_eq_false]
        exact ⟨k, by simpa using hk8, by simp [h]⟩
      simp only [okR, this, Bool.and_false]
    · by_cases hkk : k' = k
      · subst hkk; exact h
      · exact hrow k' (by omega)
  have hk3 : decide (r.t c k ≥ 0) = true := by simp; omega
  cases h6 : (decide (r.t c k ≥ 0) && decide (r.t c k ≤ 3))
  · have hcell : cellOk r c k = false := by
      rw [hk3, Bool.true_and] at h6
      simp only [cellOk, h6, Bool.false_and]
    conv => whnf
    refine ⟨rfl, _, rfl, ?_⟩
    rw [(hno _ hcell).1 rfl]; rfl
  conv => whnf
  refine ⟨_, _, rfl, l01Is_sat r hr c k ⟨by omega, by omega⟩ ⟨by omega, by omega⟩, ?_⟩
  conv => whnf
  have hk3' : decide (r.t c k ≤ 3) = true := by rw [hk3, Bool.true_and] at h6; exact h6
  have hin : (decide ((c : Int) ≥ 0) && decide ((c : Int) ≤ r.h - 1) && (decide ((k : Int) ≥ 0) && decide ((k : Int) ≤ r.w - 1))) = (decide ((c : Int) < r.h) && decide ((k : Int) < r.w)) := by
    rw [Bool.eq_iff_iff]; simp; omega
  rw [hin]
  have hkk : some (D.v (Value.int .i8 ((k + 1 : Nat) : Int))) = some (D.v (.int .i8 (IntKind.i8.wrap (k + 1)))) := by
    congr 1; exact vint (by rw [w8 (by omega) (by omega)]; omega)
  cases h7 : (decide ((c : Int) < r.h) && decide ((k : Int) < r.w))
  · conv => whnf
    have g2 : nth (roofC r) (0 + 3 + (c : Int).toNat * 8 + (k : Int).toNat * 1) = some (.int .u8 (r.t c k)) := roof_get (by omega) hc8 hk8
    refine ⟨⟨by omega, by omega⟩, ?_⟩
    conv => whnf
    refine ⟨⟨by omega, by omega⟩, ?_⟩
    conv => whnf
    refine optK_of g2 ?_
    conv => whnf
    cases h8 : (r.t c k != 0)
    · conv => whnf
      have hcell : cellOk r c k = true := by
        have : decide (r.t c k = 0) = true := by simpa using h8
        simp only [cellOk, hk3', this, Bool.true_or, Bool.and_self]
      exact ⟨k + 1, by dsimp only; omega, ⟨by omega, (hno _ hcell).2 rfl⟩, sim_of (rn := []) rfl ⟨rfl, rfl, hkk, trivial⟩ trivial⟩
    · conv => whnf
      have hcell : cellOk r c k = false := by
        have : decide (r.t c k = 0) = false := by simpa using h8
        simp only [cellOk, h7, this, Bool.or_self, Bool.and_false]
      refine ⟨rfl, _, rfl, ?_⟩
      rw [(hno _ hcell).1 rfl]; rfl
  · conv => whnf
    have hcell : cellOk r c k = true := by
      simp only [cellOk, h7, hk3', Bool.or_true, Bool.and_self]
    exact ⟨k + 1, by dsimp only; omega, ⟨by omega, (hno _ hcell).2 rfl⟩, sim_of (rn := []) rfl ⟨rfl, rfl, hkk, trivial⟩ trivial⟩
end Go.Proofs.YtdbhfobnmlogeaaDoor
/- Contracts: the laws' own copies of rows, tables, roofs. -/
set_option linter.unusedVariables false
set_option linter.unusedSimpArgs false
namespace Go.V
def row8 (f : Nat → Int) : List Value := tab 8 fun k => .int .u8 (f k)
def row8D (f : Nat → Int) : D := .v (.agg ⟨row8 f⟩)
def gridD (t : Nat → Nat → Int) : D := .v (.agg ⟨grid t⟩)
def partV (n : Nat) (f : Nat → Int) : Nat → Value := fun k => .int .u8 (if k < n then f k else 0)
theorem part_zero (m : Nat) (f : Nat → Int) : tab m (partV 0 f) = List.replicate m (.int .u8 0) := by
  apply List.ext_getElem?
  intro i
  rw [List.getElem?_replicate]
  by_cases h : i < m
  · rw [tab_get h, if_pos h]; simp [partV]
  · rw [tab_none (by omega), if_neg h]
theorem part_set {m n : Nat} {f : Nat → Int} (h : n < m) : (tab m (partV n f)).set n (.int .u8 (f n)) = tab m (partV (n + 1) f) := by
  rw [tab_set]
  apply tab_congr
  intro i hi
  simp only [partV]
  by_cases h1 : i = n
  · subst h1; simp
  · rw [if_neg h1]
    by_cases h2 : i < n
    · rw [if_pos h2, if_pos (by omega)]
    · rw [if_neg h2, if_neg (by omega)]
theorem part_all {m : Nat} {f : Nat → Int} : tab m (partV m f) = tab m fun k => .int .u8 (f k) := by
  apply tab_congr
  intro i hi
  simp only [partV, if_pos hi]
theorem row8_get {f : Nat → Int} {i k : Nat} (hi : i = k) (hk : k < 8) : nth (row8 f) i = some (.int .u8 (f k)) := by
  subst hi
  exact nth_tab hk
@[simp] theorem row8_len (f : Nat → Int) : (row8 f).length = 8 := by unfold row8; simp
@[simp] theorem grid_len (t : Nat → Nat → Int) : (grid t).length = 64 := by unfold grid; simp
structure RowIn (f : Nat → Int) : Prop where
  t : ∀ i, 0 ≤ f i ∧ f i ≤ 255
/-- The cells of a table as one row. -/
def flat (t : Nat → Nat → Int) (i : Nat) : Int := t (i / 8) (i % 8)
theorem grid_row {t : Nat → Nat → Int} {c o : Nat} (ho : o = c * 8) (hc : c < 8) : ((grid t).drop o).take 8 = row8 (t c) := by
  subst ho
  unfold grid
  rw [tab_sub (by omega)]
  apply tab_congr
  intro i hi
  rw [show (c * 8 + i) / 8 = c by omega, show (c * 8 + i) % 8 = i by omega]
theorem roof_grid (r : Roof) : ((roofC r).drop (0 + 3)).take 64 = grid r.t := by
  show (grid r.t).take 64 = grid r.t
  rw [List.take_of_length_le (by simp)]
theorem splice_all {α : Type} {xs ys : List α} (h : xs.length = ys.length) : splice xs 0 ys = ys := by
  unfold splice; simp [← h]
theorem take_drop0 {α : Type} {xs : List α} {n : Nat} (h : xs.length = n) : (xs.drop 0).take n = xs := by
  subst h; simp
/-- What a function of the laws hands back: the block that was made, copied to the result's. -/
theorem copied {xs ys : List Value} {n : Nat} (hx : xs.length = n) (hy : ys.length = n) : ((splice xs 0 ((ys.drop 0).take n)).drop 0).take n = ys := by
  rw [take_drop0 hy, splice_all (by omega), take_drop0 hy]
end Go.V
namespace Go.Proofs.YtdbhfobnmlogeaaDoor
open Go.V

end Go.Proofs.YtdbhfobnmlogeaaDoor
/- Contracts: valid roofs and ages, both sides. -/
set_option linter.unusedVariables false
set_option linter.unusedSimpArgs false
namespace Go.V
def all8 (p : Nat → Nat → Bool) : Bool := (List.range 8).all fun c => (List.range 8).all fun k => p c k
theorem all8_true {p : Nat → Nat → Bool} (h : ∀ c, c < 8 → ∀ k, k < 8 → p c k = true) : all8 p = true := by
  simp only [all8, List.all_eq_true, List.mem_range]
  exact h
theorem all8_false {p : Nat → Nat → Bool} {c k : Nat} (hc : c < 8) (hk : k < 8) (h : p c k = false) : all8 p = false := by
  unfold all8
  rw [List.all_eq_false]
  refine ⟨c, by simpa using hc, ?_⟩
  rw [Bool.not_eq_true, List.all_eq_false]
  exact ⟨k, by simpa using hk, by simp [h]⟩
theorem all8_iff {p : Nat → Nat → Bool} : all8 p = true ↔ ∀ c, c < 8 → ∀ k, k < 8 → p c k = true := by
  simp only [all8, List.all_eq_true, List.mem_range]
theorem okR_def (r : Roof) : okR r = (((decide (r.w ≥ 1) && decide (r.w ≤ 8)) && (decide (r.h ≥ 1) && decide (r.h ≤ 8)) && decide (r.s ≤ 1)) && all8 (cellOk r)) := rfl
/-- Rows and cells that have been looked at. -/
def Upto (p : Nat → Nat → Bool) (c : Nat) : Prop := ∀ c', c' < c → ∀ k, k < 8 → p c' k = true
def UptoK (p : Nat → Bool) (k : Nat) : Prop := ∀ k', k' < k → p k' = true
theorem Upto.zero (p : Nat → Nat → Bool) : Upto p 0 := fun c' h => by omega
theorem UptoK.zero (p : Nat → Bool) : UptoK p 0 := fun c' h => by omega
theorem Upto.next {p : Nat → Nat → Bool} {c : Nat} (h : Upto p c) (hr : UptoK (p c) 8) : Upto p (c + 1) := by
  intro c' hc k hk
  by_cases e : c' = c
  · subst e; exact hr k hk
  · exact h c' (by omega) k hk
theorem UptoK.next {p : Nat → Bool} {k : Nat} (h : UptoK p k) (hr : p k = true) : UptoK p (k + 1) := by
  intro k' hk
  by_cases e : k' = k
  · subst e; exact hr
  · exact h k' (by omega)
theorem Upto.all {p : Nat → Nat → Bool} (h : Upto p 8) : all8 p = true := all8_true h
theorem succ64 {n : Nat} (h : n < 4294967296) : some (D.v (Value.int .i64 ((n + 1 : Nat) : Int))) = some (D.v (.int .i64 (IntKind.i64.wrap (n + 1)))) := by
  congr 1; exact vint (by rw [w64 (by omega) (by omega)]; omega)
theorem succ8 {n : Nat} (h : n < 127) : some (D.v (Value.int .i8 ((n + 1 : Nat) : Int))) = some (D.v (.int .i8 (IntKind.i8.wrap (n + 1)))) := by
  congr 1; exact vint (by rw [w8 (by omega) (by omega)]; omega)
/-- A row, rowStored in a new block and read again. -/
theorem rowStored {t : Nat → Nat → Int} {c o : Nat} {zs : List Value} (hz : zs.length = 8) (ho : o = c * 8) (hc : c < 8) : ((splice zs 0 (((grid t).drop o).take 8)).drop 0).take 8 = row8 (t c) := by
  rw [grid_row ho hc, splice_all (by rw [hz]; simp), take_drop0 (by simp)]
end Go.V
namespace Go.Proofs.YtdbhfobnmlogeaaDoor
open Go.V

theorem validRoof_sat (r : Roof) (hr : r.In) : Sat Tryd.prog 56 [roofD r] (.v (.bool (okR r))) := by
  have e3 : IntKind.i64.wrap r.h = r.h := by have := hr.h; exact w64 (by omega) (by omega)
  have e4 : IntKind.i64.wrap r.w = r.w := by have := hr.w; exact w64 (by omega) (by omega)
  refine sat_of_wp hMix tOk Tryd.func56 rfl rfl Tryd.ntmps56 rfl rfl Tryd.results56 (by kernel_rfl) ?_
  conv => whnf
  refine ⟨_, _, rfl, within8_sat _ _ _, ?_⟩
  conv => whnf
  cases h1 : (decide (1 ≤ r.w) && decide (r.w ≤ 8))
  · refine ⟨rfl, _, rfl, ?_⟩
    have : (decide (r.w ≥ 1) && decide (r.w ≤ 8)) = false := h1
    simp only [okR_def, this, Bool.false_and]; rfl
  have h1' : (decide (r.w ≥ 1) && decide (r.w ≤ 8)) = true := h1
  conv => whnf
  refine ⟨_, _, rfl, within8_sat _ _ _, ?_⟩
  conv => whnf
  cases h2 : (decide (1 ≤ r.h) && decide (r.h ≤ 8))
  · refine ⟨rfl, _, rfl, ?_⟩
    have : (decide (r.h ≥ 1) && decide (r.h ≤ 8)) = false := h2
    simp only [okR_def, this, Bool.false_and, Bool.and_false]; rfl
  have h2' : (decide (r.h ≥ 1) && decide (r.h ≤ 8)) = true := h2
  conv => whnf
  cases h3 : (decide (r.s > 1))
  case true =>
    refine ⟨rfl, _, rfl, ?_⟩
    have : decide (r.s ≤ 1) = false := by simp at h3 ⊢; omega
    simp only [okR_def, this, Bool.false_and, Bool.and_false]; rfl
  have h3' : decide (r.s ≤ 1) = true := by simp at h3 ⊢; omega
  have hok : okR r = all8 (cellOk r) := by simp only [okR_def, h1', h2', h3', Bool.true_and]
  rw [hok]
  conv => whnf
  refine ⟨by simp [roofC], ?_⟩
  conv => whnf
  refine loop_rule (α := Nat) (fun i => [(1, .ptr (1, 0, 0) 0), (23, gridD r.t), (24, .v (.int .i64 i))]) (fun i => [((1, 0, 0), roofD r)]) (fun i => i ≤ 8 ∧ Upto (cellOk r) i) (fun i => 8 - i) 0 ⟨Nat.zero_le _, Upto.zero _⟩
    (sim_of (rn := [((1, 0, 0), (1, 0, 0))]) rfl ⟨rfl, ?_, rfl, trivial⟩ ⟨⟨_, _, rfl, rfl, rfl⟩, trivial⟩) ?_
  · show some (D.v (.agg ⟨grid r.t⟩)) = some (D.v (.agg ⟨((roofC r).drop (0 + 3)).take 64⟩))
    rw [roof_grid]
  rintro i ⟨hi, hall⟩
  conv => whnf
  cases h4 : decide ((i : Int) < 8)
  · have h8 : i = 8 := by simp at h4; omega
    subst h8
    conv => whnf
    refine ⟨rfl, _, rfl, ?_⟩
    rw [hall.all]; rfl
  conv => whnf
  have h8 : i < 8 := by simp at h4; omega
  refine ⟨⟨by omega, by omega⟩, ?_⟩
  conv => whnf
  refine ⟨by simp; omega, ?_⟩
  conv => whnf
  refine ⟨by simp; omega, ?_⟩
  conv => whnf
  refine ⟨by simp; omega, ?_⟩
  conv => whnf
  refine ⟨by simp [splice]; omega, ?_⟩
  conv => whnf
  refine loop_rule (α := Nat) (fun k => [(1, .ptr (1, 0, 0) 0), (3, .v (.int .i64 i)), (23, gridD r.t), (24, .v (.int .i64 i)), (28, row8D (r.t i)), (29, .v (.int .i64 k))]) (fun _ => [((1, 0, 0), roofD r)]) (fun k => k ≤ 8 ∧ UptoK (cellOk r i) k) (fun k => 8 - k) 0 ⟨Nat.zero_le _, UptoK.zero _⟩
    (sim_of (rn := [((1, 0, 0), (1, 0, 0))]) rfl ⟨rfl, rfl, rfl, rfl, ?_, rfl, trivial⟩ ⟨⟨_, _, rfl, rfl, rfl⟩, trivial⟩) ?_
  · show some (D.v (.agg ⟨row8 (r.t i)⟩)) = some (D.v (.agg ⟨((splice (List.replicate 8 (.int .u8 0)) 0 (((grid r.t).drop ((i : Int).toNat * 8)).take 8)).drop 0).take 8⟩))
    rw [rowStored (by simp) (by omega) h8]
  rintro k ⟨hk, hrow⟩
  conv => whnf
  cases h5 : decide ((k : Int) < 8)
  · have hk8 : k = 8 := by simp at h5; omega
    subst hk8
    conv => whnf
    exact ⟨i + 1, by dsimp only; omega, ⟨by omega, hall.next hrow⟩, sim_of (rn := [((1, 0, 0), (1, 0, 0))]) rfl ⟨rfl, rfl, succ64 (by omega), trivial⟩ ⟨⟨_, _, rfl, rfl, rfl⟩, trivial⟩⟩
  conv => whnf
  have hk8 : k < 8 := by simp at h5; omega
  refine ⟨⟨by omega, by omega⟩, ?_⟩
  conv => whnf
  refine optK_of (row8_get (k := k) (by simp) hk8) ?_
  conv => whnf
  have bad : cellOk r i k = false → all8 (cellOk r) = false := all8_false h8 hk8
  have ht := hr.t i k
  cases h6 : decide (r.t i k > 3)
  case true =>
    conv => whnf
    refine ⟨rfl, _, rfl, ?_⟩
    have : decide (r.t i k ≤ 3) = false := by simp at h6 ⊢; omega
    rw [bad (by simp only [cellOk, this, Bool.false_and])]; rfl
  have h6' : decide (r.t i k ≤ 3) = true := by simp at h6 ⊢; omega
  conv => whnf
  have fin : cellOk r i k = true → ∃ y, 8 - y < 8 - k ∧ (y ≤ 8 ∧ UptoK (cellOk r i) y) ∧ y = k + 1 := fun h => ⟨k + 1, by omega, ⟨by omega, hrow.next h⟩, rfl⟩
  cases h7 : (r.t i k != 0)
  · conv => whnf
    obtain ⟨y, g1, g2, rfl⟩ := fin (by simp at h7; simp [cellOk, h7])
    exact ⟨_, g1, g2, sim_of (rn := [((1, 0, 0), (1, 0, 0))]) rfl ⟨rfl, rfl, rfl, rfl, rfl, succ64 (by omega), trivial⟩ ⟨⟨_, _, rfl, rfl, rfl⟩, trivial⟩⟩
  conv => whnf
  rw [e3]
  have h7' : decide (r.t i k = 0) = false := by simpa using h7
  cases h9 : decide ((i : Int) ≥ r.h)
  · conv => whnf
    rw [e4]
    cases h10 : decide ((k : Int) ≥ r.w)
    · conv => whnf
      obtain ⟨y, g1, g2, rfl⟩ := fin (by simp at h9 h10 h6'; simp [cellOk, h6']; right; omega)
      exact ⟨_, g1, g2, sim_of (rn := [((1, 0, 0), (1, 0, 0))]) rfl ⟨rfl, rfl, rfl, rfl, rfl, succ64 (by omega), trivial⟩ ⟨⟨_, _, rfl, rfl, rfl⟩, trivial⟩⟩
    · conv => whnf
      refine ⟨rfl, _, rfl, ?_⟩
      have : decide ((k : Int) < r.w) = false := by simp at h10 ⊢; omega
      rw [bad (by simp only [cellOk, this, h7', Bool.and_false, Bool.or_self])]; rfl
  · conv => whnf
    refine ⟨rfl, _, rfl, ?_⟩
    have : decide ((i : Int) < r.h) = false := by simp at h9 ⊢; omega
    rw [bad (by simp only [cellOk, this, h7', Bool.false_and, Bool.and_false, Bool.or_self])]; rfl
end Go.Proofs.YtdbhfobnmlogeaaDoor
/- Contracts: valid ages, both sides. -/
set_option linter.unusedVariables false
set_option linter.unusedSimpArgs false
namespace Go.V
theorem okR_bounds {r : Roof} (h : okR r = true) : (1 ≤ r.w ∧ r.w ≤ 8) ∧ (1 ≤ r.h ∧ r.h ≤ 8) ∧ r.s ≤ 1 := by
  simp only [okR_def, Bool.and_eq_true, decide_eq_true_eq] at h
  omega
theorem grid_at {t : Nat → Nat → Int} {c k o : Nat} (ho : o = c * 8 + k) (hc : c < 8) (hk : k < 8) : nth (grid t) o = some (.int .u8 (t c k)) := by
  subst ho; exact grid_get hc hk
end Go.V
namespace Go.Proofs.YtdbhfobnmlogeaaDoor
open Go.V

end Go.Proofs.YtdbhfobnmlogeaaDoor
/- Contracts: valid colours, both sides. -/
set_option linter.unusedVariables false
set_option linter.unusedSimpArgs false
namespace Go.V
def shrI (x w : Int) : Int := x.fdiv (2 ^ (min w.toNat IntKind.i64.bits))
def colOk (r : Roof) (f : Nat → Int) (i : Nat) : Bool := (shrI (f i) r.w == 0) && (decide ((i : Int) < r.h) || (f i == 0))
def okC (r : Roof) (f : Nat → Int) : Bool := okR r && (List.range 8).all (colOk r f)
theorem UptoK.all {p : Nat → Bool} (h : UptoK p 8) : (List.range 8).all p = true := by
  simp only [List.all_eq_true, List.mem_range]
  exact h
theorem allK_false {p : Nat → Bool} {i : Nat} (hi : i < 8) (h : p i = false) : (List.range 8).all p = false := by
  rw [List.all_eq_false]
  exact ⟨i, by simpa using hi, by simp [h]⟩
end Go.V
namespace Go.Proofs.YtdbhfobnmlogeaaDoor
open Go.V

theorem l07Colours_sat (r : Roof) (hr : r.In) (f : Nat → Int) (hf : RowIn f) : Sat Tryd.prog 106 [.ref false (roofD r) 0, .ref false (row8D f) 0] (.v (.bool (okC r f))) := by
  refine sat_of_wp hMix tOk Tryd.func106 rfl rfl Tryd.ntmps106 rfl rfl Tryd.results106 (by kernel_rfl) ?_
  conv => whnf
  refine ⟨_, _, rfl, l01Ok_sat r hr, ?_⟩
  conv => whnf
  cases h1 : okR r
  · refine ⟨rfl, _, rfl, ?_⟩
    simp only [okC, h1, Bool.false_and]; rfl
  have hok : okC r f = (List.range 8).all (colOk r f) := by simp only [okC, h1, Bool.true_and]
  rw [hok]
  have hb := okR_bounds h1
  have e3 : IntKind.i64.wrap r.h = r.h := w64 (by omega) (by omega)
  have e4 : IntKind.u64.wrap r.w = r.w := wu64 (by omega) (by omega)
  conv => whnf
  refine loop_rule (α := Nat) (fun c => [(0, .ref false (roofD r) 0), (1, .ref false (row8D f) 0), (5, .v (.int .i64 c))]) (fun _ => []) (fun c => c ≤ 8 ∧ UptoK (colOk r f) c) (fun c => 8 - c) 0 ⟨Nat.zero_le _, UptoK.zero _⟩
    (sim_of (rn := []) rfl ⟨rfl, rfl, rfl, trivial⟩ trivial) ?_
  rintro c ⟨hc, hall⟩
  conv => whnf
  cases h4 : decide ((c : Int) < 8)
  · have h8 : c = 8 := by simp at h4; omega
    subst h8
    conv => whnf
    refine ⟨rfl, _, rfl, ?_⟩
    rw [hall.all]; rfl
  conv => whnf
  have h8 : c < 8 := by simp at h4; omega
  have ht := hf.t c
  have e5 : IntKind.i64.wrap (f c) = f c := w64 (by omega) (by omega)
  have bad : colOk r f c = false → (List.range 8).all (colOk r f) = false := allK_false h8
  have fin : colOk r f c = true → ∃ y, 8 - y < 8 - c ∧ (y ≤ 8 ∧ UptoK (colOk r f) y) ∧ y = c + 1 := fun h => ⟨c + 1, by omega, ⟨by omega, hall.next h⟩, rfl⟩
  refine ⟨⟨by omega, by omega⟩, ?_⟩
  conv => whnf
  refine optK_of (row8_get (k := c) (by simp) h8) ?_
  conv => whnf
  rw [e4, e5]
  refine ⟨by omega, ?_⟩
  conv => whnf
  cases h6 : ((f c).fdiv (2 ^ min r.w.toNat IntKind.i64.bits) != 0)
  case true =>
    conv => whnf
    refine ⟨rfl, _, rfl, ?_⟩
    have : (shrI (f c) r.w == 0) = false := by unfold shrI; simpa using h6
    rw [bad (by simp only [colOk, this, Bool.false_and])]; rfl
  have h6' : (shrI (f c) r.w == 0) = true := by unfold shrI; simpa using h6
  conv => whnf
  rw [e3]
  cases h9 : decide ((c : Int) ≥ r.h)
  · conv => whnf
    obtain ⟨y, g1, g2, rfl⟩ := fin (by simp at h9; simp only [colOk, h6', Bool.true_and]; simp; left; omega)
    exact ⟨_, g1, g2, sim_of (rn := []) rfl ⟨rfl, rfl, succ64 (by omega), trivial⟩ trivial⟩
  have h9' : decide ((c : Int) < r.h) = false := by simp at h9 ⊢; omega
  conv => whnf
  refine ⟨⟨by omega, by omega⟩, ?_⟩
  conv => whnf
  refine optK_of (row8_get (k := c) (by simp) h8) ?_
  conv => whnf
  cases h7 : (f c != 0)
  · conv => whnf
    obtain ⟨y, g1, g2, rfl⟩ := fin (by simp at h7; simp only [colOk, h6', Bool.true_and]; simp [h7])
    exact ⟨_, g1, g2, sim_of (rn := []) rfl ⟨rfl, rfl, succ64 (by omega), trivial⟩ trivial⟩
  · conv => whnf
    refine ⟨rfl, _, rfl, ?_⟩
    have : (f c == 0) = false := by simpa using h7
    rw [bad (by simp only [colOk, this, h9', Bool.or_self, Bool.and_false])]; rfl

theorem validColours_sat (r : Roof) (hr : r.In) (f : Nat → Int) (hf : RowIn f) : Sat Tryd.prog 47 [roofD r, row8D f] (.v (.bool (okC r f))) := by
  refine sat_of_wp hMix tOk Tryd.func47 rfl rfl Tryd.ntmps47 rfl rfl Tryd.results47 (by kernel_rfl) ?_
  conv => whnf
  refine ⟨by simp [roofC], ?_⟩
  conv => whnf
  have e0 : ((roofC r).drop 0).take 67 = roofC r := take_drop0 (by simp [roofC])
  have e0' : Sat Tryd.prog 56 [D.v (.agg ⟨((roofC r).drop 0).take 67⟩)] (.v (.bool (okR r))) := by rw [e0]; exact validRoof_sat r hr
  refine ⟨_, _, rfl, e0', ?_⟩
  conv => whnf
  cases h1 : okR r
  · refine ⟨rfl, _, rfl, ?_⟩
    simp only [okC, h1, Bool.false_and]; rfl
  have hok : okC r f = (List.range 8).all (colOk r f) := by simp only [okC, h1, Bool.true_and]
  rw [hok]
  have hb := okR_bounds h1
  have e3 : IntKind.i64.wrap r.h = r.h := w64 (by omega) (by omega)
  conv => whnf
  refine ⟨by simp [row8D], ?_⟩
  conv => whnf
  refine loop_rule (α := Nat) (fun i => [(2, .ptr (2, 0, 0) 0), (10, row8D f), (11, .v (.int .i64 i))]) (fun i => [((2, 0, 0), roofD r)]) (fun i => i ≤ 8 ∧ UptoK (colOk r f) i) (fun i => 8 - i) 0 ⟨Nat.zero_le _, UptoK.zero _⟩
    (sim_of (rn := [((2, 0, 0), (2, 0, 0))]) rfl ⟨rfl, ?_, rfl, trivial⟩ ⟨⟨_, _, rfl, rfl, rfl⟩, trivial⟩) ?_
  · show some (D.v (.agg ⟨row8 f⟩)) = some (D.v (.agg ⟨((row8 f).drop 0).take 8⟩))
    rw [take_drop0 (by simp)]
  rintro c ⟨hc, hall⟩
  conv => whnf
  cases h4 : decide ((c : Int) < 8)
  · have h8 : c = 8 := by simp at h4; omega
    subst h8
    conv => whnf
    refine ⟨rfl, _, rfl, ?_⟩
    rw [hall.all]; rfl
  conv => whnf
  have h8 : c < 8 := by simp at h4; omega
  have ht := hf.t c
  have e5 : IntKind.i64.wrap (f c) = f c := w64 (by omega) (by omega)
  have bad : colOk r f c = false → (List.range 8).all (colOk r f) = false := allK_false h8
  have fin : colOk r f c = true → ∃ y, 8 - y < 8 - c ∧ (y ≤ 8 ∧ UptoK (colOk r f) y) ∧ y = c + 1 := fun h => ⟨c + 1, by omega, ⟨by omega, hall.next h⟩, rfl⟩
  refine ⟨⟨by omega, by omega⟩, ?_⟩
  conv => whnf
  refine optK_of (row8_get (k := c) (by simp) h8) ?_
  conv => whnf
  have done : colOk r f c = true → ∀ (Q : Prop), (∀ y, 8 - y < 8 - c → (y ≤ 8 ∧ UptoK (colOk r f) y) → y = c + 1 → Q) → Q := fun h Q k => by
    obtain ⟨y, g1, g2, g3⟩ := fin h; exact k y g1 g2 g3
  cases h7 : (f c != 0)
  · conv => whnf
    rw [e5]
    refine ⟨by omega, ?_⟩
    conv => whnf
    have h7' : f c = 0 := by simpa using h7
    have hz : ((f c).fdiv (2 ^ min r.w.toNat IntKind.i64.bits) != 0) = false := by rw [h7']; simp
    rw [hz]
    conv => whnf
    obtain ⟨y, g1, g2, rfl⟩ := fin (by
      have : (shrI (f c) r.w == 0) = true := by unfold shrI; simpa using hz
      simp only [colOk, this, Bool.true_and]; simp [h7'])
    exact ⟨_, g1, g2, sim_of (rn := [((2, 0, 0), (2, 0, 0))]) rfl ⟨rfl, rfl, succ64 (by omega), trivial⟩ ⟨⟨_, _, rfl, rfl, rfl⟩, trivial⟩⟩
  have h7' : (f c == 0) = false := by simpa using h7
  conv => whnf
  rw [e3]
  cases h9 : decide ((c : Int) ≥ r.h)
  case true =>
    conv => whnf
    refine ⟨rfl, _, rfl, ?_⟩
    have h9' : decide ((c : Int) < r.h) = false := by simp at h9 ⊢; omega
    rw [bad (by simp only [colOk, h7', h9', Bool.or_self, Bool.and_false])]; rfl
  conv => whnf
  rw [e5]
  refine ⟨by omega, ?_⟩
  conv => whnf
  cases h6 : ((f c).fdiv (2 ^ min r.w.toNat IntKind.i64.bits) != 0)
  · conv => whnf
    have h6' : (shrI (f c) r.w == 0) = true := by unfold shrI; simpa using h6
    obtain ⟨y, g1, g2, rfl⟩ := fin (by simp at h9; simp only [colOk, h6', Bool.true_and]; simp; left; omega)
    exact ⟨_, g1, g2, sim_of (rn := [((2, 0, 0), (2, 0, 0))]) rfl ⟨rfl, rfl, succ64 (by omega), trivial⟩ ⟨⟨_, _, rfl, rfl, rfl⟩, trivial⟩⟩
  · conv => whnf
    refine ⟨rfl, _, rfl, ?_⟩
    have : (shrI (f c) r.w == 0) = false := by unfold shrI; simpa using h6
    rw [bad (by simp only [colOk, this, Bool.false_and])]; rfl

end Go.Proofs.YtdbhfobnmlogeaaDoor
/- Contracts: mirrored colours, both sides. -/
set_option linter.unusedVariables false
set_option linter.unusedSimpArgs false
namespace Go.V
/-- The eight bits of a byte, turned round. -/
def bitI (x : Int) (k : Nat) : Int := (x / 2 ^ k) % 2
def rev8 (x : Int) : Int := bitI x 0 * 128 + bitI x 1 * 64 + bitI x 2 * 32 + bitI x 3 * 16 + bitI x 4 * 8 + bitI x 5 * 4 + bitI x 6 * 2 + bitI x 7
def orU8 (a b : Int) : Int := IntKind.u8.wrap (BitVec.ofInt IntKind.u8.bits a ||| BitVec.ofInt IntKind.u8.bits b).toNat
def mirS (x : Int) (w : Nat) : Nat → Int
  | 0 => 0
  | k + 1 => if ((x.fdiv (2 ^ (min k IntKind.u8.bits))).tmod 2 == 1) = true then orU8 (mirS x w k) (IntKind.u8.wrap (1 * 2 ^ (min (w - 1 - k) IntKind.u8.bits))) else mirS x w k
/-- What mirroring makes of one course. -/
def mir (r : Roof) (f : Nat → Int) (i : Nat) : Int := (rev8 (f i)).fdiv (2 ^ (min (8 - r.w).toNat IntKind.u8.bits))
theorem mir_fact : ∀ w : Nat, w < 9 → ∀ x : Nat, x < 256 → shrI x w = 0 → 0 < w → mirS x w w = (rev8 x).fdiv (2 ^ (min (8 - w) IntKind.u8.bits)) := by decide +kernel
theorem eq_toNat {x : Int} (h : 0 ≤ x) : ∃ n : Nat, x = n := ⟨x.toNat, by omega⟩
def mrow (r : Roof) (f : Nat → Int) (c k : Nat) : Nat → Value := fun i => .int .u8 (if i < c then mirS (f i) r.w.toNat r.w.toNat else if i = c then mirS (f i) r.w.toNat k else 0)
def mirOut (r : Roof) (f : Nat → Int) (i : Nat) : Int := if okC r f = true then mir r f i else 0
theorem mrow_zero (r : Roof) (f : Nat → Int) : tab 8 (mrow r f 0 0) = List.replicate 8 (.int .u8 0) := by
  rw [← part_zero 8 f]
  apply tab_congr
  intro i hi
  simp only [mrow, partV, mirS]
  simp
theorem mrow_next (r : Roof) (f : Nat → Int) (c : Nat) : tab 8 (mrow r f c r.w.toNat) = tab 8 (mrow r f (c + 1) 0) := by
  apply tab_congr
  intro i hi
  simp only [mrow, mirS]
  by_cases h : i < c
  · rw [if_pos h, if_pos (by omega)]
  · rw [if_neg h]
    by_cases h2 : i = c
    · rw [if_pos h2, if_pos (by omega)]
    · rw [if_neg h2, if_neg (by omega)]; simp
theorem mrow_get {r : Roof} {f : Nat → Int} {c k o : Nat} (ho : o = c) (hc : c < 8) : nth (tab 8 (mrow r f c k)) o = some (.int .u8 (mirS (f c) r.w.toNat k)) := by
  subst ho
  rw [nth_tab hc]
  simp [mrow]
theorem mrow_set {r : Roof} {f : Nat → Int} {c k : Nat} {x : Int} (hx : x = mirS (f c) r.w.toNat (k + 1)) : (tab 8 (mrow r f c k)).set c (.int .u8 x) = tab 8 (mrow r f c (k + 1)) := by
  subst hx
  rw [tab_set]
  apply tab_congr
  intro i hi
  simp only [mrow]
  by_cases h : i = c
  · subst h; simp
  · rw [if_neg h]; simp [h]
theorem mrow_done {r : Roof} {f : Nat → Int} (hf : RowIn f) (hok : okC r f = true) (hb : 1 ≤ r.w ∧ r.w ≤ 8) : tab 8 (mrow r f r.h.toNat 0) = row8 (mirOut r f) := by
  apply tab_congr
  intro i hi
  simp only [okC, Bool.and_eq_true, List.all_eq_true, List.mem_range] at hok
  have hc := hok.2 i hi
  simp only [colOk, Bool.and_eq_true, Bool.or_eq_true, beq_iff_eq, decide_eq_true_eq] at hc
  have hr := hf.t i
  obtain ⟨n, hn⟩ := eq_toNat hr.1
  obtain ⟨w, hw⟩ := eq_toNat (show 0 ≤ r.w by omega)
  have main : mirS (f i) w w = (rev8 (f i)).fdiv (2 ^ (min (8 - w) IntKind.u8.bits)) := by
    rw [hn]
    refine mir_fact w (by omega) n (by omega) ?_ (by omega)
    rw [← hn, ← hw]; exact hc.1
  have hok' : okC r f = true := by
    simp only [okC, Bool.and_eq_true, List.all_eq_true, List.mem_range]; exact hok
  simp only [mrow, mirOut, hok', if_true, mir, hw, mirS]
  rw [show ((8 : Int) - (w : Int)).toNat = 8 - w by omega, ← main]
  simp only [Int.toNat_natCast]
  by_cases h : i < r.h.toNat
  · rw [if_pos h]
  · rw [if_neg h]
    have : f i = 0 := by omega
    have hz : mirS 0 w w = 0 := by
      have := mir_fact w (by omega) 0 (by omega) (by unfold shrI; simp) (by omega)
      refine Eq.trans this ?_
      have : rev8 ((0 : Nat) : Int) = 0 := by decide
      rw [this]; simp
    rw [this, hz]; simp
end Go.V
namespace Go.Proofs.YtdbhfobnmlogeaaDoor
open Go.V
theorem reverse8_sat (x : Int) (h0 : 0 ≤ x) (h1 : x ≤ 255) : Sat Tryd.prog 105 [.v (.int .u8 x)] (.v (.int .u8 (rev8 x))) := by
  refine sat_of_wp hMix tOk Tryd.func105 rfl rfl Tryd.ntmps105 rfl rfl Tryd.results105 (by kernel_rfl) ?_
  conv => whnf
  refine ⟨⟨h0, Int.lt_of_lt_of_le (show x < 256 by omega) (by decide +kernel)⟩, ?_⟩
  conv => whnf
  refine ⟨rfl, _, rfl, ?_⟩
  refine vint ?_
  obtain ⟨n, rfl⟩ := eq_toNat h0
  have hn : n < 256 := by omega
  clear h0 h1
  revert n
  decide +kernel

theorem specMirror_sat (r : Roof) (hr : r.In) (f : Nat → Int) (hf : RowIn f) : Sat Tryd.prog 46 [roofD r, row8D f] (.tup [row8D (mirOut r f), .v (.int .i64 (if okC r f = true then 0 else 1))]) := by
  refine sat_of_wp hMix tOk Tryd.func46 rfl rfl Tryd.ntmps46 rfl rfl Tryd.results46 (by kernel_rfl) ?_
  conv => whnf
  refine ⟨_, _, rfl, l07Colours_sat r hr f hf, ?_⟩
  conv => whnf
  cases h1 : okC r f
  · conv => whnf
    refine ⟨rfl, ?_⟩
    conv => whnf
    refine ⟨by decide, ?_⟩
    conv => whnf
    refine ⟨by decide, ?_⟩
    conv => whnf
    refine ⟨rfl, _, rfl, ?_⟩
    have hz : row8 (mirOut r f) = List.replicate 8 (.int .u8 0) := by
      rw [← part_zero 8 f]
      apply tab_congr
      intro i hi
      simp [mirOut, partV, h1]
    show D.tup [.v (.agg ⟨row8 (mirOut r f)⟩), .v (.int .i64 (if false = true then 0 else 1))] = _
    rw [hz]; rfl
  have hb := h1
  simp only [okC, Bool.and_eq_true] at hb
  replace hb := okR_bounds hb.1
  have e3 : IntKind.i64.wrap r.h = r.h := w64 (by omega) (by omega)
  conv => whnf
  refine ⟨rfl, ?_⟩
  conv => whnf
  refine ⟨by decide, ?_⟩
  conv => whnf
  refine loop_rule (α := Nat) (fun c => [(2, .ptr (2, 0, 0) 0), (3, .ptr (3, 0, 0) 0), (4, .ptr (4, 0, 0) 0), (6, .ptr (6, 0, 0) 0), (7, .v (.int .i64 c))])
    (fun c => [((2, 0, 0), roofD r), ((3, 0, 0), row8D f), ((4, 0, 0), .v (.agg ⟨List.replicate 8 (.int .u8 0)⟩)), ((6, 0, 0), .v (.agg ⟨tab 8 (mrow r f c 0)⟩))]) (fun c => c ≤ r.h.toNat) (fun c => 8 - c) 0 (Nat.zero_le _)
    (sim_of (rn := [((2, 0, 0), (2, 0, 0)), ((3, 0, 0), (3, 0, 0)), ((4, 0, 0), (4, 0, 0)), ((6, 0, 0), (6, 0, 0))]) rfl ⟨rfl, rfl, rfl, rfl, rfl, trivial⟩ ⟨⟨_, _, rfl, rfl, rfl⟩, ⟨_, _, rfl, rfl, rfl⟩, ⟨_, _, rfl, rfl, rfl⟩, ⟨_, _, rfl, rfl, ?_⟩, trivial⟩) ?_
  · rw [mrow_zero]; rfl
  intro c hc
  conv => whnf
  rw [e3]
  cases h4 : decide ((c : Int) < r.h)
  · have h8 : c = r.h.toNat := by simp at h4; omega
    subst h8
    conv => whnf
    refine ⟨by simp, ?_⟩
    conv => whnf
    refine ⟨by simp, ?_⟩
    conv => whnf
    refine ⟨by simp, ?_⟩
    conv => whnf
    refine ⟨by simp [splice], ?_⟩
    conv => whnf
    refine ⟨rfl, _, rfl, ?_⟩
    show D.tup [.v (.agg ⟨row8 (mirOut r f)⟩), .v (.int .i64 (if true = true then 0 else 1))] = _
    refine congrArg (fun l => D.tup [.v (.agg ⟨l⟩), .v (.int .i64 0)]) (Eq.symm ?_)
    refine (copied (n := 8) (xs := List.replicate 8 (.int .u8 0)) (ys := tab 8 (mrow r f r.h.toNat 0)) (by simp) (tab_length _ _)).trans ?_
    exact mrow_done hf h1 hb.1
  conv => whnf
  have hch : (c : Int) < r.h := by simpa using h4
  have h8 : c < 8 := by omega
  refine loop_rule (α := Nat) (fun k => [(2, .ptr (2, 0, 0) 0), (3, .ptr (3, 0, 0) 0), (4, .ptr (4, 0, 0) 0), (6, .ptr (6, 0, 0) 0), (7, .v (.int .i64 c)), (8, .v (.int .i8 k))])
    (fun k => [((2, 0, 0), roofD r), ((3, 0, 0), row8D f), ((4, 0, 0), .v (.agg ⟨List.replicate 8 (.int .u8 0)⟩)), ((6, 0, 0), .v (.agg ⟨tab 8 (mrow r f c k)⟩))]) (fun k => k ≤ r.w.toNat) (fun k => 8 - k) 0 (Nat.zero_le _)
    (sim_of (rn := [((2, 0, 0), (2, 0, 0)), ((3, 0, 0), (3, 0, 0)), ((4, 0, 0), (4, 0, 0)), ((6, 0, 0), (6, 0, 0))]) rfl ⟨rfl, rfl, rfl, rfl, rfl, rfl, trivial⟩ ⟨⟨_, _, rfl, rfl, rfl⟩, ⟨_, _, rfl, rfl, rfl⟩, ⟨_, _, rfl, rfl, rfl⟩, ⟨_, _, rfl, rfl, rfl⟩, trivial⟩) ?_
  intro k hk
  conv => whnf
  cases h5 : decide ((k : Int) < r.w)
  · have hkw : k = r.w.toNat := by simp at h5; omega
    subst hkw
    conv => whnf
    refine ⟨c + 1, by dsimp only; omega, by dsimp only; omega, sim_of (rn := [((2, 0, 0), (2, 0, 0)), ((3, 0, 0), (3, 0, 0)), ((4, 0, 0), (4, 0, 0)), ((6, 0, 0), (6, 0, 0))]) rfl ⟨rfl, rfl, rfl, rfl, succ64 (by omega), trivial⟩ ⟨⟨_, _, rfl, rfl, rfl⟩, ⟨_, _, rfl, rfl, rfl⟩, ⟨_, _, rfl, rfl, rfl⟩, ⟨_, _, rfl, rfl, ?_⟩, trivial⟩⟩
    rw [← mrow_next]; rfl
  conv => whnf
  have hkw : (k : Int) < r.w := by simpa using h5
  refine ⟨⟨by omega, by omega⟩, ?_⟩
  conv => whnf
  refine optK_of (row8_get (k := c) (by simp) h8) ?_
  conv => whnf
  have ek : IntKind.u64.wrap (k : Int) = k := wu64 (by omega) (by omega)
  rw [ek]
  refine ⟨by omega, ?_⟩
  conv => whnf
  refine ⟨by decide, ?_⟩
  conv => whnf
  rw [Int.toNat_natCast]
  cases h6 : ((f c).fdiv (2 ^ min k IntKind.u8.bits)).tmod 2 == 1
  · conv => whnf
    refine ⟨k + 1, by dsimp only; omega, by dsimp only; omega, sim_of (rn := [((2, 0, 0), (2, 0, 0)), ((3, 0, 0), (3, 0, 0)), ((4, 0, 0), (4, 0, 0)), ((6, 0, 0), (6, 0, 0))]) rfl ⟨rfl, rfl, rfl, rfl, rfl, succ8 (by omega), trivial⟩ ⟨⟨_, _, rfl, rfl, rfl⟩, ⟨_, _, rfl, rfl, rfl⟩, ⟨_, _, rfl, rfl, rfl⟩, ⟨_, _, rfl, rfl, ?_⟩, trivial⟩⟩
    show some (D.v (.agg ⟨tab 8 (mrow r f c k)⟩)) = some (D.v (.agg ⟨tab 8 (mrow r f c (k + 1))⟩))
    have : mirS (f c) r.w.toNat (k + 1) = mirS (f c) r.w.toNat k := by
      simp only [mirS, h6]; simp
    congr 3
    congr 1
    apply tab_congr
    intro i _
    simp only [mrow]
    by_cases hi : i = c
    · subst hi; rw [this]
    · simp [hi]
  conv => whnf
  refine ⟨⟨by omega, by omega⟩, ?_⟩
  conv => whnf
  refine optK_of (mrow_get (c := c) (by simp) h8) ?_
  conv => whnf
  have d1 : IntKind.i8.wrap (r.w - 1) = r.w - 1 := w8 (by omega) (by omega)
  have d2 : IntKind.i8.wrap (r.w - 1 - (k : Int)) = r.w - 1 - k := w8 (by omega) (by omega)
  have d3 : IntKind.u64.wrap (r.w - 1 - (k : Int)) = r.w - 1 - k := wu64 (by omega) (by omega)
  rw [d1, d2, d3]
  refine ⟨by omega, ?_⟩
  conv => whnf
  refine ⟨⟨by omega, by omega⟩, ?_⟩
  conv => whnf
  refine ⟨by simp; omega, ?_⟩
  conv => whnf
  refine ⟨k + 1, by dsimp only; omega, by dsimp only; omega, sim_of (rn := [((2, 0, 0), (2, 0, 0)), ((3, 0, 0), (3, 0, 0)), ((4, 0, 0), (4, 0, 0)), ((6, 0, 0), (6, 0, 0))]) rfl ⟨rfl, rfl, rfl, rfl, rfl, succ8 (by omega), trivial⟩ ⟨⟨_, _, rfl, rfl, rfl⟩, ⟨_, _, rfl, rfl, rfl⟩, ⟨_, _, rfl, rfl, rfl⟩, ⟨_, _, rfl, rfl, ?_⟩, trivial⟩⟩
  show some (D.v (.agg ⟨(tab 8 (mrow r f c k)).set (0 + (c : Int).toNat * 1) _⟩)) = _
  rw [show 0 + (c : Int).toNat * 1 = c by omega, mrow_set]
  simp only [mirS, h6, if_true]
  rw [show r.w.toNat - 1 - k = (r.w - 1 - (k : Int)).toNat by omega]
  rfl
end Go.Proofs.YtdbhfobnmlogeaaDoor
/- Contracts: mirrored colours, the program's side, and the law. -/
set_option linter.unusedVariables false
set_option linter.unusedSimpArgs false
namespace Go.V
theorem mirOut_zero {r : Roof} {f : Nat → Int} (h1 : okC r f = false) : row8 (mirOut r f) = List.replicate 8 (.int .u8 0) := by
  rw [← part_zero 8 f]
  apply tab_congr
  intro i hi
  simp [mirOut, partV, h1]
theorem mirOut_ok {r : Roof} {f : Nat → Int} (h1 : okC r f = true) : row8 (mirOut r f) = row8 (mir r f) := by
  apply tab_congr
  intro i hi
  simp [mirOut, h1]
end Go.V
namespace Go.Proofs.YtdbhfobnmlogeaaDoor
open Go.V
theorem mirror_sat (r : Roof) (hr : r.In) (f : Nat → Int) (hf : RowIn f) : Sat Tryd.prog 45 [roofD r, row8D f] (.tup [row8D (mirOut r f), .v (.int .i64 (if okC r f = true then 0 else 1))]) := by
  have e0 : ((roofC r).drop 0).take 67 = roofC r := take_drop0 (by simp [roofC])
  have e1 : ((row8 f).drop 0).take 8 = row8 f := take_drop0 (by simp)
  have cv : Sat Tryd.prog 47 [D.v (.agg ⟨((roofC r).drop 0).take 67⟩), D.v (.agg ⟨((row8 f).drop 0).take 8⟩)] (.v (.bool (okC r f))) := by rw [e0, e1]; exact validColours_sat r hr f hf
  refine sat_of_wp hMix tOk Tryd.func45 rfl rfl Tryd.ntmps45 rfl rfl Tryd.results45 (by kernel_rfl) ?_
  conv => whnf
  refine ⟨by simp [roofC], ?_⟩
  conv => whnf
  refine ⟨by simp, ?_⟩
  conv => whnf
  refine ⟨_, _, rfl, cv, ?_⟩
  conv => whnf
  cases h1 : okC r f
  · conv => whnf
    refine ⟨rfl, ?_⟩
    conv => whnf
    refine ⟨by decide, ?_⟩
    conv => whnf
    refine ⟨by decide, ?_⟩
    conv => whnf
    refine ⟨rfl, _, rfl, ?_⟩
    show D.tup [.v (.agg ⟨row8 (mirOut r f)⟩), .v (.int .i64 (if false = true then 0 else 1))] = _
    rw [mirOut_zero h1]; rfl
  have hb := h1
  simp only [okC, Bool.and_eq_true] at hb
  replace hb := okR_bounds hb.1
  conv => whnf
  refine ⟨by simp, ?_⟩
  conv => whnf
  refine loop_rule (α := Nat) (fun i => [(2, .ptr (2, 0, 0) 0), (4, .ptr (4, 0, 0) 0), (6, .ptr (6, 0, 0) 0), (14, row8D f), (15, .v (.int .i64 i))])
    (fun i => [((2, 0, 0), roofD r), ((4, 0, 0), .v (.agg ⟨List.replicate 8 (.int .u8 0)⟩)), ((6, 0, 0), .v (.agg ⟨tab 8 (partV i (mir r f))⟩))]) (fun i => i ≤ 8) (fun i => 8 - i) 0 (Nat.zero_le _)
    (sim_of (rn := [((2, 0, 0), (2, 0, 0)), ((4, 0, 0), (4, 0, 0)), ((6, 0, 0), (6, 0, 0))]) rfl ⟨rfl, rfl, rfl, ?_, rfl, trivial⟩ ⟨⟨_, _, rfl, rfl, rfl⟩, ⟨_, _, rfl, rfl, rfl⟩, ⟨_, _, rfl, rfl, ?_⟩, trivial⟩) ?_
  · show some (D.v (.agg ⟨row8 f⟩)) = some (D.v (.agg ⟨((row8 f).drop 0).take 8⟩))
    rw [e1]
  · rw [part_zero]; rfl
  intro i hi
  conv => whnf
  cases h4 : decide ((i : Int) < 8)
  · have h8 : i = 8 := by simp at h4; omega
    subst h8
    conv => whnf
    refine ⟨by simp, ?_⟩
    conv => whnf
    refine ⟨by simp, ?_⟩
    conv => whnf
    refine ⟨by simp, ?_⟩
    conv => whnf
    refine ⟨by simp [splice], ?_⟩
    conv => whnf
    refine ⟨rfl, _, rfl, ?_⟩
    show D.tup [.v (.agg ⟨row8 (mirOut r f)⟩), .v (.int .i64 (if true = true then 0 else 1))] = _
    refine congrArg (fun l => D.tup [.v (.agg ⟨l⟩), .v (.int .i64 0)]) (Eq.symm ?_)
    refine (copied (n := 8) (xs := List.replicate 8 (.int .u8 0)) (ys := tab 8 (partV 8 (mir r f))) (by simp) (tab_length _ _)).trans ?_
    rw [mirOut_ok h1, part_all]; rfl
  conv => whnf
  have h8 : i < 8 := by simp at h4; omega
  refine ⟨⟨by omega, by omega⟩, ?_⟩
  conv => whnf
  refine optK_of (row8_get (k := i) (by simp) h8) ?_
  conv => whnf
  have ht := hf.t i
  refine ⟨_, _, rfl, reverse8_sat (f i) ht.1 ht.2, ?_⟩
  conv => whnf
  have d1 : IntKind.i8.wrap (8 - r.w) = 8 - r.w := w8 (by omega) (by omega)
  rw [d1]
  refine ⟨by omega, ?_⟩
  conv => whnf
  refine ⟨⟨by omega, by omega⟩, ?_⟩
  conv => whnf
  refine ⟨by simp; omega, ?_⟩
  conv => whnf
  refine ⟨i + 1, by dsimp only; omega, by dsimp only; omega, sim_of (rn := [((2, 0, 0), (2, 0, 0)), ((4, 0, 0), (4, 0, 0)), ((6, 0, 0), (6, 0, 0))]) rfl ⟨rfl, rfl, rfl, rfl, succ64 (by omega), trivial⟩ ⟨⟨_, _, rfl, rfl, rfl⟩, ⟨_, _, rfl, rfl, rfl⟩, ⟨_, _, rfl, rfl, ?_⟩, trivial⟩⟩
  show some (D.v (.agg ⟨(tab 8 (partV i (mir r f))).set (0 + (i : Int).toNat * 1) (.int .u8 (mir r f i))⟩)) = _
  rw [show 0 + (i : Int).toNat * 1 = i by omega, part_set h8]

end Go.Proofs.YtdbhfobnmlogeaaDoor
/- Contracts: the text of colours, both sides, and the law. -/
set_option linter.unusedVariables false
set_option linter.unusedSimpArgs false
namespace Go.V
def bitR (x : Int) (k : Nat) : Bool := (x.fdiv (2 ^ (min k IntKind.u8.bits))).tmod 2 == 1
def txtRow (acc : ByteArray) (x : Int) : Nat → ByteArray
  | 0 => acc
  | k + 1 => txtRow acc x k ++ (if bitR x k = true then ⟨#[114]⟩ else ⟨#[98]⟩)
def txt (f : Nat → Int) (w : Nat) : Nat → ByteArray
  | 0 => ⟨#[]⟩
  | c + 1 => txtRow (txt f w c) (f c) w ++ ⟨#[10]⟩
theorem txtRow_size (acc : ByteArray) (x : Int) : ∀ k, (txtRow acc x k).size = acc.size + k
  | 0 => rfl
  | k + 1 => by
    simp only [txtRow, ByteArray.size_append, txtRow_size acc x k]
    split <;> (show _ + 1 = _; omega)
theorem txt_size (f : Nat → Int) (w : Nat) : ∀ c, (txt f w c).size = c * (w + 1)
  | 0 => by rw [Nat.zero_mul]; rfl
  | c + 1 => by
    simp only [txt, ByteArray.size_append, txtRow_size, txt_size f w c]
    show c * (w + 1) + w + 1 = _
    rw [Nat.succ_mul]; omega
theorem and1_fact : ∀ k : Nat, k < 8 → ∀ x : Nat, x < 256 → (IntKind.u8.wrap (BitVec.ofInt IntKind.u8.bits ((x : Int).fdiv (2 ^ min k IntKind.u8.bits)) &&& BitVec.ofInt IntKind.u8.bits 1).toNat == 1) = bitR x k := by decide +kernel
def colText (r : Roof) (f : Nat → Int) : ByteArray := if okC r f = true then txt f r.w.toNat r.h.toNat else ⟨#[]⟩
end Go.V
namespace Go.Proofs.YtdbhfobnmlogeaaDoor
open Go.V
theorem coloursText_sat (r : Roof) (hr : r.In) (f : Nat → Int) (hf : RowIn f) (hb : (1 ≤ r.w ∧ r.w ≤ 8) ∧ (1 ≤ r.h ∧ r.h ≤ 8) ∧ r.s ≤ 1) :
    Sat Tryd.prog 58 [roofD r, row8D f] (.v (.string (txt f r.w.toNat r.h.toNat))) := by
  refine sat_of_wp hMix tOk Tryd.func58 rfl rfl Tryd.ntmps58 rfl rfl Tryd.results58 (by kernel_rfl) ?_
  conv => whnf
  refine loop_rule (α := Nat) (fun c => [(2, .ptr (2, 0, 0) 0), (3, .ptr (3, 0, 0) 0), (5, .v (.string (txt f r.w.toNat c))), (9, .v (.int .i8 r.h)), (10, .v (.int .i8 c))]) (fun _ => [((2, 0, 0), roofD r), ((3, 0, 0), row8D f)]) (fun c => c ≤ r.h.toNat) (fun c => 8 - c) 0 (Nat.zero_le _)
    (sim_of (rn := [((2, 0, 0), (2, 0, 0)), ((3, 0, 0), (3, 0, 0))]) rfl ⟨rfl, rfl, rfl, rfl, rfl, trivial⟩ ⟨⟨_, _, rfl, rfl, rfl⟩, ⟨_, _, rfl, rfl, rfl⟩, trivial⟩) ?_
  intro c hc
  conv => whnf
  cases h4 : decide ((c : Int) < r.h)
  · have h8 : c = r.h.toNat := by simp at h4; omega
    subst h8
    conv => whnf
    exact ⟨rfl, _, rfl, rfl⟩
  conv => whnf
  have hch : (c : Int) < r.h := by simpa using h4
  have h8 : c < 8 := by omega
  refine loop_rule (α := Nat) (fun k => [(2, .ptr (2, 0, 0) 0), (3, .ptr (3, 0, 0) 0), (5, .v (.string (txtRow (txt f r.w.toNat c) (f c) k))), (6, .v (.int .i8 c)), (9, .v (.int .i8 r.h)), (10, .v (.int .i8 c)), (14, .v (.int .i8 r.w)), (15, .v (.int .i8 k))]) (fun _ => [((2, 0, 0), roofD r), ((3, 0, 0), row8D f)]) (fun k => k ≤ r.w.toNat) (fun k => 8 - k) 0 (Nat.zero_le _)
    (sim_of (rn := [((2, 0, 0), (2, 0, 0)), ((3, 0, 0), (3, 0, 0))]) rfl ⟨rfl, rfl, rfl, rfl, rfl, rfl, rfl, rfl, trivial⟩ ⟨⟨_, _, rfl, rfl, rfl⟩, ⟨_, _, rfl, rfl, rfl⟩, trivial⟩) ?_
  intro k hk
  have hsz : (txtRow (txt f r.w.toNat c) (f c) k).size = c * (r.w.toNat + 1) + k := by rw [txtRow_size, txt_size]
  have hmul : c * (r.w.toNat + 1) ≤ 8 * 9 := Nat.mul_le_mul (by omega) (by omega)
  conv => whnf
  cases h5 : decide ((k : Int) < r.w)
  · have hkw : k = r.w.toNat := by simp at h5; omega
    subst hkw
    conv => whnf
    refine ⟨?_, ?_⟩
    · rw [hsz]; show ((_ + 1 : Nat) : Int) ≤ 9223372036854775807; omega
    conv => whnf
    exact ⟨c + 1, by dsimp only; omega, by dsimp only; omega, sim_of (rn := [((2, 0, 0), (2, 0, 0)), ((3, 0, 0), (3, 0, 0))]) rfl ⟨rfl, rfl, rfl, rfl, succ8 (by omega), trivial⟩ ⟨⟨_, _, rfl, rfl, rfl⟩, ⟨_, _, rfl, rfl, rfl⟩, trivial⟩⟩
  conv => whnf
  have hkw : (k : Int) < r.w := by simpa using h5
  refine ⟨⟨by omega, by omega⟩, ?_⟩
  conv => whnf
  refine optK_of (row8_get (k := c) (by simp) h8) ?_
  conv => whnf
  refine ⟨by omega, ?_⟩
  conv => whnf
  rw [Int.toNat_natCast]
  have hfc := hf.t c
  obtain ⟨x, hx⟩ := eq_toNat hfc.1
  have hbit : (IntKind.u8.wrap (BitVec.ofInt IntKind.u8.bits ((f c).fdiv (2 ^ min k IntKind.u8.bits)) &&& BitVec.ofInt IntKind.u8.bits 1).toNat == 1) = bitR (f c) k := by
    rw [hx]; exact and1_fact k (by omega) x (by omega)
  rw [hbit]
  cases h6 : bitR (f c) k
  · conv => whnf
    refine ⟨?_, ?_⟩
    · rw [hsz]; show ((_ + 1 : Nat) : Int) ≤ 9223372036854775807; omega
    conv => whnf
    have ht : txtRow (txt f r.w.toNat c) (f c) (k + 1) = txtRow (txt f r.w.toNat c) (f c) k ++ ⟨#[98]⟩ := by simp only [txtRow, h6]; simp
    refine ⟨k + 1, by dsimp only; omega, by dsimp only; omega, sim_of (rn := [((2, 0, 0), (2, 0, 0)), ((3, 0, 0), (3, 0, 0))]) rfl ⟨rfl, rfl, ?_, rfl, rfl, rfl, rfl, succ8 (by omega), trivial⟩ ⟨⟨_, _, rfl, rfl, rfl⟩, ⟨_, _, rfl, rfl, rfl⟩, trivial⟩⟩
    show some (D.v (.string (txtRow (txt f r.w.toNat c) (f c) (k + 1)))) = _
    rw [ht]; rfl
  · conv => whnf
    refine ⟨?_, ?_⟩
    · rw [hsz]; show ((_ + 1 : Nat) : Int) ≤ 9223372036854775807; omega
    conv => whnf
    have ht : txtRow (txt f r.w.toNat c) (f c) (k + 1) = txtRow (txt f r.w.toNat c) (f c) k ++ ⟨#[114]⟩ := by simp only [txtRow, h6]; simp
    refine ⟨k + 1, by dsimp only; omega, by dsimp only; omega, sim_of (rn := [((2, 0, 0), (2, 0, 0)), ((3, 0, 0), (3, 0, 0))]) rfl ⟨rfl, rfl, ?_, rfl, rfl, rfl, rfl, succ8 (by omega), trivial⟩ ⟨⟨_, _, rfl, rfl, rfl⟩, ⟨_, _, rfl, rfl, rfl⟩, trivial⟩⟩
    show some (D.v (.string (txtRow (txt f r.w.toNat c) (f c) (k + 1)))) = _
    rw [ht]; rfl

theorem implText_sat (r : Roof) (hr : r.In) (f : Nat → Int) (hf : RowIn f) : Sat Tryd.prog 42 [roofD r, row8D f] (.v (.string (colText r f))) := by
  have e0 : ((roofC r).drop 0).take 67 = roofC r := take_drop0 (by simp [roofC])
  have e1 : ((row8 f).drop 0).take 8 = row8 f := take_drop0 (by simp)
  have cv : Sat Tryd.prog 47 [D.v (.agg ⟨((roofC r).drop 0).take 67⟩), D.v (.agg ⟨((row8 f).drop 0).take 8⟩)] (.v (.bool (okC r f))) := by rw [e0, e1]; exact validColours_sat r hr f hf
  refine sat_of_wp hMix tOk Tryd.func42 rfl rfl Tryd.ntmps42 rfl rfl Tryd.results42 (by kernel_rfl) ?_
  conv => whnf
  refine ⟨by simp [roofC], ?_⟩
  conv => whnf
  refine ⟨by simp, ?_⟩
  conv => whnf
  refine ⟨_, _, rfl, cv, ?_⟩
  conv => whnf
  cases h1 : okC r f
  · refine ⟨rfl, _, rfl, ?_⟩
    simp only [colText, h1]; rfl
  have hb := h1
  simp only [okC, Bool.and_eq_true] at hb
  have ct : Sat Tryd.prog 58 [D.v (.agg ⟨((roofC r).drop 0).take 67⟩), D.v (.agg ⟨((row8 f).drop 0).take 8⟩)] (.v (.string (txt f r.w.toNat r.h.toNat))) := by rw [e0, e1]; exact coloursText_sat r hr f hf (okR_bounds hb.1)
  conv => whnf
  refine ⟨by simp [roofC], ?_⟩
  conv => whnf
  refine ⟨by simp, ?_⟩
  conv => whnf
  refine ⟨_, _, rfl, ct, ?_⟩
  conv => whnf
  refine ⟨rfl, _, rfl, ?_⟩
  simp only [colText, h1, if_true]; rfl

end Go.Proofs.YtdbhfobnmlogeaaDoor
/- Contracts: how many tiles are red, both sides, and the law. -/
set_option linter.unusedVariables false
set_option linter.unusedSimpArgs false
namespace Go.V
theorem tab_zero (f : Nat → Value) : tab 0 f = [] := by rw [tab_def]; rfl
theorem tab_snoc (n : Nat) (f : Nat → Value) : tab n f ++ [f n] = tab (n + 1) f := by
  rw [tab_def, tab_def, List.range_succ, List.map_append]; rfl
def cntK (x : Int) : Nat → Int
  | 0 => 0
  | k + 1 => cntK x k + (x.fdiv (2 ^ (min k IntKind.u8.bits))).tmod 2
def cntC (f : Nat → Int) : Nat → Int
  | 0 => 0
  | c + 1 => cntC f c + cntK (f c) 8
theorem cntK_fact : ∀ k : Nat, k < 9 → ∀ x : Nat, x < 256 → 0 ≤ cntK x k ∧ cntK x k ≤ k := by decide +kernel
theorem shr8_fact : ∀ k : Nat, k < 9 → ∀ x : Nat, x < 256 → 0 ≤ (x : Int).fdiv (2 ^ (min k IntKind.u8.bits)) ∧ (x : Int).fdiv (2 ^ (min k IntKind.u8.bits)) ≤ 255 := by decide +kernel
theorem cntK_bound {f : Nat → Int} (hf : RowIn f) (c : Nat) {k : Nat} (hk : k < 9) : 0 ≤ cntK (f c) k ∧ cntK (f c) k ≤ k := by
  have := hf.t c
  obtain ⟨x, hx⟩ := eq_toNat this.1
  rw [hx]; exact cntK_fact k hk x (by omega)
theorem shr8_bound {f : Nat → Int} (hf : RowIn f) (c : Nat) {k : Nat} (hk : k < 9) : 0 ≤ (f c).fdiv (2 ^ (min k IntKind.u8.bits)) ∧ (f c).fdiv (2 ^ (min k IntKind.u8.bits)) ≤ 255 := by
  have := hf.t c
  obtain ⟨x, hx⟩ := eq_toNat this.1
  rw [hx]; exact shr8_fact k hk x (by omega)
theorem cntC_bound {f : Nat → Int} (hf : RowIn f) : ∀ c : Nat, 0 ≤ cntC f c ∧ cntC f c ≤ c * 8
  | 0 => by simp [cntC]
  | c + 1 => by
    have := cntC_bound hf c
    have h2 := cntK_bound hf c (k := 8) (by omega)
    simp only [cntC]
    omega
end Go.V
namespace Go.Proofs.YtdbhfobnmlogeaaDoor
open Go.V
theorem l07Count_sat (f : Nat → Int) (hf : RowIn f) : Sat Tryd.prog 153 [.ref false (row8D f) 0] (.v (.int .i64 (cntC f 8))) := by
  refine sat_of_wp hMix tOk Tryd.func153 rfl rfl Tryd.ntmps153 rfl rfl Tryd.results153 (by kernel_rfl) ?_
  conv => whnf
  refine loop_rule (α := Nat) (fun c => [(0, .ref false (row8D f) 0), (3, .v (.int .i64 (cntC f c))), (4, .v (.int .i64 c))]) (fun _ => []) (fun c => c ≤ 8) (fun c => 8 - c) 0 (Nat.zero_le _)
    (sim_of (rn := []) rfl ⟨rfl, rfl, rfl, trivial⟩ trivial) ?_
  intro c hc
  conv => whnf
  cases h4 : decide ((c : Int) < 8)
  · have h8 : c = 8 := by simp at h4; omega
    subst h8
    exact ⟨rfl, _, rfl, rfl⟩
  conv => whnf
  have h8 : c < 8 := by simp at h4; omega
  have hcb := cntC_bound hf c
  refine loop_rule (α := Nat) (fun k => [(0, .ref false (row8D f) 0), (3, .v (.int .i64 (cntC f c + cntK (f c) k))), (4, .v (.int .i64 c)), (5, .v (.int .i64 k))]) (fun _ => []) (fun k => k ≤ 8) (fun k => 8 - k) 0 (Nat.zero_le _)
    (sim_of (rn := []) rfl ⟨rfl, ?_, rfl, rfl, trivial⟩ trivial) ?_
  · show some (D.v (.int .i64 (cntC f c + 0))) = _
    rw [Int.add_zero]; rfl
  intro k hk
  conv => whnf
  cases h5 : decide ((k : Int) < 8)
  · have hk8 : k = 8 := by simp at h5; omega
    subst hk8
    conv => whnf
    exact ⟨c + 1, by dsimp only; omega, by dsimp only; omega, sim_of (rn := []) rfl ⟨rfl, rfl, succ64 (by omega), trivial⟩ trivial⟩
  conv => whnf
  have hk8 : k < 8 := by simp at h5; omega
  refine ⟨⟨by omega, by omega⟩, ?_⟩
  conv => whnf
  refine optK_of (row8_get (k := c) (by simp) h8) ?_
  conv => whnf
  have ek : IntKind.u64.wrap (k : Int) = k := wu64 (by omega) (by omega)
  rw [ek]
  refine ⟨by omega, ?_⟩
  conv => whnf
  refine ⟨by decide, ?_⟩
  conv => whnf
  have hs := shr8_bound hf c (k := k) (by omega)
  have hkb := cntK_bound hf c (k := k + 1) (by omega)
  have e5 : IntKind.i64.wrap ((f c).fdiv (2 ^ (min k IntKind.u8.bits))) = (f c).fdiv (2 ^ (min k IntKind.u8.bits)) := w64 (by omega) (by omega)
  refine ⟨k + 1, by dsimp only; omega, by dsimp only; omega, sim_of (rn := []) rfl ⟨rfl, ?_, rfl, succ64 (by omega), trivial⟩ trivial⟩
  show some (D.v (.int .i64 (cntC f c + cntK (f c) (k + 1)))) = some (D.v (.int .i64 (IntKind.i64.wrap (cntC f c + cntK (f c) k + (IntKind.i64.wrap ((f c).fdiv (2 ^ (min (k : Int).toNat IntKind.u8.bits)))).tmod 2))))
  rw [Int.toNat_natCast, e5]
  congr 1
  refine vint ?_
  have hstep : cntK (f c) (k + 1) = cntK (f c) k + ((f c).fdiv (2 ^ (min k IntKind.u8.bits))).tmod 2 := rfl
  rw [Int.add_assoc, ← hstep, w64 (by omega) (by omega)]

theorem onesCount8_sat (x : Int) (h0 : 0 ≤ x) (h1 : x ≤ 255) : Sat Tryd.prog 148 [.v (.int .u8 x)] (.v (.int .i64 (cntK x 8))) := by
  refine sat_of_wp hMix tOk Tryd.func148 rfl rfl Tryd.ntmps148 rfl rfl Tryd.results148 (by kernel_rfl) ?_
  conv => whnf
  refine ⟨⟨h0, Int.lt_of_lt_of_le (show x < 256 by omega) (by decide +kernel)⟩, ?_⟩
  conv => whnf
  refine ⟨rfl, _, rfl, ?_⟩
  refine vint ?_
  obtain ⟨n, rfl⟩ := eq_toNat h0
  have hn : n < 256 := by omega
  clear h0 h1
  revert n
  decide +kernel

theorem count1_sat (x : Int) (h0 : 0 ≤ x) (h1 : x ≤ 255) : Sat Tryd.prog 147 [.v (.int .u8 x)] (.v (.int .i64 (cntK x 8))) := by
  refine sat_of_wp hMix tOk Tryd.func147 rfl rfl Tryd.ntmps147 rfl rfl Tryd.results147 (by kernel_rfl) ?_
  conv => whnf
  refine ⟨_, _, rfl, onesCount8_sat x h0 h1, ?_⟩
  exact ⟨rfl, _, rfl, rfl⟩

theorem each8_sat {g : Nat} {q : Int → Int} (hg : ∀ x, 0 ≤ x → x ≤ 255 → Sat Tryd.prog g [.v (.int .u8 x)] (.v (.int .i64 (q x)))) (n : Nat) (hn : n ≤ 1000) (f : Nat → Int) (hf : RowIn f) :
    Sat Tryd.prog 146 [.row false 1 (.v (.agg ⟨tab n fun i => .int .u8 (f i)⟩)) n, .fn (.func g) [] []] (.row true 1 (.v (.agg ⟨tab n fun i => .int .i64 (q (f i))⟩)) n) := by
  refine sat_of_wp hMix tOk Tryd.func146 rfl rfl Tryd.ntmps146 rfl rfl Tryd.results146 (by kernel_rfl) ?_
  conv => whnf
  refine loop_rule (α := Nat) (fun i => [(1, .fn (.func g) [] []), (5, .slc true 1 (19, 0, 0) 0 i), (8, .row false 1 (.v (.agg ⟨tab n fun i => .int .u8 (f i)⟩)) n), (9, .v (.int .i64 n)), (10, .v (.int .i64 i))])
    (fun i => [((19, 0, 0), .v (.agg ⟨tab i fun i => .int .i64 (q (f i))⟩))]) (fun i => i ≤ n) (fun i => n - i) 0 (Nat.zero_le _)
    (sim_of (rn := [((19, 0, 0), nilId)]) rfl ⟨rfl, rfl, rfl, rfl, rfl, trivial⟩ ⟨⟨_, _, rfl, rfl, ?_⟩, trivial⟩) ?_
  · rw [tab_zero]; rfl
  intro i hi
  conv => whnf
  cases h4 : decide ((i : Int) < (n : Int))
  · have h8 : i = n := by simp at h4; omega
    subst h8
    conv => whnf
    refine ⟨rfl, _, rfl, ?_⟩
    rfl
  conv => whnf
  have h8 : i < n := by simp at h4; omega
  refine ⟨⟨by omega, by omega⟩, ?_⟩
  conv => whnf
  have g1 : nth (tab n fun i => Value.int .u8 (f i)) ((i : Int).toNat * 1) = some (.int .u8 (f i)) := by
    rw [show (i : Int).toNat * 1 = i by omega]; exact nth_tab h8
  refine optK_of g1 ?_
  conv => whnf
  have ht := hf.t i
  refine .inl ⟨_, _, rfl, hg _ ht.1 ht.2, ?_⟩
  conv => whnf
  refine ⟨⟨by show (i + 1) * 8 ≤ 140737488355328; omega, by omega⟩, ?_⟩
  conv => whnf
  refine ⟨i + 1, by dsimp only; omega, by dsimp only; omega, sim_of (rn := [((19, 0, 0), (19, 1, 0))]) rfl ⟨rfl, rfl, rfl, rfl, succ64 (by omega), trivial⟩ ⟨⟨_, _, rfl, rfl, ?_⟩, trivial⟩⟩
  show some (D.v (.agg ⟨(tab i fun i => .int .i64 (q (f i))) ++ [.int .i64 (q (f i))]⟩)) = _
  rw [tab_snoc i fun i => .int .i64 (q (f i))]

def sumTo (p : Nat → Int) : Nat → Int
  | 0 => 0
  | n + 1 => sumTo p n + p n
theorem sum_sat (n : Nat) (hn : n ≤ 1000) (p : Nat → Int) (hp : ∀ i, 0 ≤ p i ∧ p i ≤ 1000) : Sat Tryd.prog 145 [.row false 1 (.v (.agg ⟨tab n fun i => .int .i64 (p i)⟩)) n] (.v (.int .i64 (sumTo p n))) := by
  have hb : ∀ i : Nat, 0 ≤ sumTo p i ∧ sumTo p i ≤ i * 1000 := by
    intro i
    induction i with
    | zero => simp [sumTo]
    | succ i ih => have := hp i; simp only [sumTo]; omega
  refine sat_of_wp hMix tOk Tryd.func145 rfl rfl Tryd.ntmps145 rfl rfl Tryd.results145 (by kernel_rfl) ?_
  conv => whnf
  refine loop_rule (α := Nat) (fun i => [(3, .v (.int .i64 (sumTo p i))), (6, .row false 1 (.v (.agg ⟨tab n fun i => .int .i64 (p i)⟩)) n), (7, .v (.int .i64 n)), (8, .v (.int .i64 i))])
    (fun i => []) (fun i => i ≤ n) (fun i => n - i) 0 (Nat.zero_le _)
    (sim_of (rn := []) rfl ⟨rfl, rfl, rfl, rfl, trivial⟩ trivial) ?_
  intro i hi
  conv => whnf
  cases h4 : decide ((i : Int) < (n : Int))
  · have h8 : i = n := by simp at h4; omega
    subst h8
    exact ⟨rfl, _, rfl, rfl⟩
  conv => whnf
  have h8 : i < n := by simp at h4; omega
  refine ⟨⟨by omega, by omega⟩, ?_⟩
  conv => whnf
  have g1 : nth (tab n fun i => Value.int .i64 (p i)) ((i : Int).toNat * 1) = some (.int .i64 (p i)) := by
    rw [show (i : Int).toNat * 1 = i by omega]; exact nth_tab h8
  refine optK_of g1 ?_
  conv => whnf
  have h1 := hb i
  have h2 := hp i
  refine ⟨i + 1, by dsimp only; omega, by dsimp only; omega, sim_of (rn := []) rfl ⟨?_, rfl, rfl, succ64 (by omega), trivial⟩ trivial⟩
  show some (D.v (.int .i64 (sumTo p i + p i))) = some (D.v (.int .i64 (IntKind.i64.wrap (sumTo p i + p i))))
  rw [w64 (by omega) (by omega)]

theorem sumTo_cnt (f : Nat → Int) : ∀ n, sumTo (fun i => cntK (f i) 8) n = cntC f n
  | 0 => rfl
  | n + 1 => by simp only [sumTo, cntC, sumTo_cnt f n]

theorem count_sat (f : Nat → Int) (hf : RowIn f) : Sat Tryd.prog 103 [row8D f] (.v (.int .i64 (cntC f 8))) := by
  have e1 : ((row8 f).drop (0 + (0 : Int).toNat * 1)).take (8 * 1) = row8 f := take_drop0 (by simp)
  have c1 : Sat Tryd.prog 146 [.row false 1 (.v (.agg ⟨((row8 f).drop (0 + (0 : Int).toNat * 1)).take (8 * 1)⟩)) 8, .fn (.func 147) [] []] (.row true 1 (.v (.agg ⟨tab 8 fun i => .int .i64 (cntK (f i) 8)⟩)) 8) := by
    rw [e1]; exact each8_sat (q := fun x => cntK x 8) count1_sat 8 (by omega) f hf
  have c2 : Sat Tryd.prog 145 [.row false 1 (.v (.agg ⟨((tab 8 fun i => .int .i64 (cntK (f i) 8)).drop 0).take (8 * 1)⟩)) 8] (.v (.int .i64 (cntC f 8))) := by
    rw [take_drop0 (by simp), ← sumTo_cnt]
    exact sum_sat 8 (by omega) (fun i => cntK (f i) 8) fun i => by
      have := cntK_bound hf i (k := 8) (by omega)
      omega
  refine sat_of_wp hMix tOk Tryd.func103 rfl rfl Tryd.ntmps103 rfl rfl Tryd.results103 (by kernel_rfl) ?_
  conv => whnf
  refine ⟨⟨by decide, by decide, by decide, by show 8 ≤ (row8 f).length; simp⟩, ?_⟩
  conv => whnf
  refine ⟨_, _, rfl, c1, ?_⟩
  conv => whnf
  refine ⟨_, _, rfl, c2, ?_⟩
  exact ⟨rfl, _, rfl, rfl⟩

theorem countColour_sat (r : Roof) (hr : r.In) (f : Nat → Int) (hf : RowIn f) : Sat Tryd.prog 43 [roofD r, row8D f] (.tup [.v (.int .i64 (if okC r f = true then cntC f 8 else 0)), .v (.int .i64 (if okC r f = true then 0 else 1))]) := by
  have e0 : ((roofC r).drop 0).take 67 = roofC r := take_drop0 (by simp [roofC])
  have e1 : ((row8 f).drop 0).take 8 = row8 f := take_drop0 (by simp)
  have cv : Sat Tryd.prog 47 [D.v (.agg ⟨((roofC r).drop 0).take 67⟩), D.v (.agg ⟨((row8 f).drop 0).take 8⟩)] (.v (.bool (okC r f))) := by rw [e0, e1]; exact validColours_sat r hr f hf
  have cc : Sat Tryd.prog 103 [D.v (.agg ⟨((row8 f).drop 0).take 8⟩)] (.v (.int .i64 (cntC f 8))) := by rw [e1]; exact count_sat f hf
  refine sat_of_wp hMix tOk Tryd.func43 rfl rfl Tryd.ntmps43 rfl rfl Tryd.results43 (by kernel_rfl) ?_
  conv => whnf
  refine ⟨by simp [roofC], ?_⟩
  conv => whnf
  refine ⟨by simp, ?_⟩
  conv => whnf
  refine ⟨_, _, rfl, cv, ?_⟩
  conv => whnf
  cases h1 : okC r f
  · exact ⟨rfl, _, rfl, rfl⟩
  conv => whnf
  refine ⟨by simp, ?_⟩
  conv => whnf
  refine ⟨_, _, rfl, cc, ?_⟩
  exact ⟨rfl, _, rfl, rfl⟩

end Go.Proofs.YtdbhfobnmlogeaaDoor
/- Contracts: by how many tiles colours differ, both sides, and the law. -/
set_option linter.unusedVariables false
set_option linter.unusedSimpArgs false
namespace Go.V
def xorR (f g : Nat → Int) (i : Nat) : Int := IntKind.u8.wrap (BitVec.ofInt IntKind.u8.bits (f i) ^^^ BitVec.ofInt IntKind.u8.bits (g i)).toNat
theorem wrap8_range (n : Int) : 0 ≤ IntKind.u8.wrap n ∧ IntKind.u8.wrap n ≤ 255 := by
  simp [IntKind.wrap, IntKind.bits, IntKind.signed]
  omega
theorem xorR_in (f g : Nat → Int) : RowIn (xorR f g) := ⟨fun i => wrap8_range _⟩
def half (n : Nat) (x f : Nat → Int) : Nat → Value := fun k => .int .u8 (if k < n then x k else f k)
theorem half_zero (x f : Nat → Int) : tab 8 (half 0 x f) = row8 f := by
  apply tab_congr; intro i hi; simp [half]
theorem half_all (x f : Nat → Int) : tab 8 (half 8 x f) = row8 x := by
  apply tab_congr; intro i hi; simp [half, hi]
theorem half_get {n o : Nat} {x f : Nat → Int} (ho : o = n) (h : n < 8) : nth (tab 8 (half n x f)) o = some (.int .u8 (f n)) := by
  subst ho; rw [nth_tab h]; simp [half]
theorem half_set {n : Nat} {x f : Nat → Int} : (tab 8 (half n x f)).set n (.int .u8 (x n)) = tab 8 (half (n + 1) x f) := by
  rw [tab_set]
  apply tab_congr
  intro i hi
  simp only [half]
  by_cases h1 : i = n
  · subst h1; simp
  · rw [if_neg h1]
    by_cases h2 : i < n
    · rw [if_pos h2, if_pos (by omega)]
    · rw [if_neg h2, if_neg (by omega)]
end Go.V
namespace Go.Proofs.YtdbhfobnmlogeaaDoor
open Go.V
theorem l07Off_sat (f g : Nat → Int) (hf : RowIn f) (hg : RowIn g) : Sat Tryd.prog 110 [.ref false (row8D f) 0, .ref false (row8D g) 0] (.v (.int .i64 (cntC (xorR f g) 8))) := by
  have cc : Sat Tryd.prog 153 [.ref false (.v (.agg ⟨tab 8 (partV 8 (xorR f g))⟩)) 0] (.v (.int .i64 (cntC (xorR f g) 8))) := by
    rw [part_all]; exact l07Count_sat _ (xorR_in f g)
  refine sat_of_wp hMix tOk Tryd.func110 rfl rfl Tryd.ntmps110 rfl rfl Tryd.results110 (by kernel_rfl) ?_
  conv => whnf
  refine ⟨rfl, ?_⟩
  conv => whnf
  refine ⟨by decide, ?_⟩
  conv => whnf
  refine loop_rule (α := Nat) (fun i => [(0, .ref false (row8D f) 0), (1, .ref false (row8D g) 0), (5, .ptr (5, 0, 0) 0), (6, .v (.int .i64 i))]) (fun i => [((5, 0, 0), .v (.agg ⟨tab 8 (partV i (xorR f g))⟩))]) (fun i => i ≤ 8) (fun i => 8 - i) 0 (Nat.zero_le _)
    (sim_of (rn := [((5, 0, 0), (5, 0, 0))]) rfl ⟨rfl, rfl, rfl, rfl, trivial⟩ ⟨⟨_, _, rfl, rfl, ?_⟩, trivial⟩) ?_
  · rw [part_zero]; rfl
  intro i hi
  conv => whnf
  cases h4 : decide ((i : Int) < 8)
  · have h8 : i = 8 := by simp at h4; omega
    subst h8
    conv => whnf
    refine ⟨_, _, rfl, cc, ?_⟩
    exact ⟨rfl, _, rfl, rfl⟩
  conv => whnf
  have h8 : i < 8 := by simp at h4; omega
  refine ⟨⟨by omega, by omega⟩, ?_⟩
  conv => whnf
  refine optK_of (row8_get (k := i) (by simp) h8) ?_
  conv => whnf
  refine ⟨⟨by omega, by omega⟩, ?_⟩
  conv => whnf
  refine optK_of (row8_get (k := i) (by simp) h8) ?_
  conv => whnf
  refine ⟨⟨by omega, by omega⟩, ?_⟩
  conv => whnf
  refine ⟨by simp; omega, ?_⟩
  conv => whnf
  refine ⟨i + 1, by dsimp only; omega, by dsimp only; omega, sim_of (rn := [((5, 0, 0), (5, 0, 0))]) rfl ⟨rfl, rfl, rfl, succ64 (by omega), trivial⟩ ⟨⟨_, _, rfl, rfl, ?_⟩, trivial⟩⟩
  show some (D.v (.agg ⟨(tab 8 (partV i (xorR f g))).set (0 + (i : Int).toNat * 1) (.int .u8 (xorR f g i))⟩)) = _
  rw [show 0 + (i : Int).toNat * 1 = i by omega, part_set h8]

theorem off_sat (f g : Nat → Int) (hf : RowIn f) (hg : RowIn g) : Sat Tryd.prog 104 [row8D f, row8D g] (.v (.int .i64 (cntC (xorR f g) 8))) := by
  have cc : Sat Tryd.prog 103 [.v (.agg ⟨((tab 8 (half 8 (xorR f g) f)).drop 0).take 8⟩)] (.v (.int .i64 (cntC (xorR f g) 8))) := by
    rw [half_all, take_drop0 (by simp)]; exact count_sat _ (xorR_in f g)
  refine sat_of_wp hMix tOk Tryd.func104 rfl rfl Tryd.ntmps104 rfl rfl Tryd.results104 (by kernel_rfl) ?_
  conv => whnf
  refine loop_rule (α := Nat) (fun i => [(2, .ptr (2, 0, 0) 0), (3, .ptr (3, 0, 0) 0), (6, .v (.int .i64 i))]) (fun i => [((2, 0, 0), .v (.agg ⟨tab 8 (half i (xorR f g) f)⟩)), ((3, 0, 0), row8D g)]) (fun i => i ≤ 8) (fun i => 8 - i) 0 (Nat.zero_le _)
    (sim_of (rn := [((2, 0, 0), (2, 0, 0)), ((3, 0, 0), (3, 0, 0))]) rfl ⟨rfl, rfl, rfl, trivial⟩ ⟨⟨_, _, rfl, rfl, ?_⟩, ⟨_, _, rfl, rfl, rfl⟩, trivial⟩) ?_
  · rw [half_zero]; rfl
  intro i hi
  conv => whnf
  cases h4 : decide ((i : Int) < 8)
  · have h8 : i = 8 := by simp at h4; omega
    subst h8
    conv => whnf
    refine ⟨by simp, ?_⟩
    conv => whnf
    refine ⟨_, _, rfl, cc, ?_⟩
    exact ⟨rfl, _, rfl, rfl⟩
  conv => whnf
  have h8 : i < 8 := by simp at h4; omega
  refine ⟨⟨by omega, by omega⟩, ?_⟩
  conv => whnf
  refine optK_of (half_get (n := i) (by simp) h8) ?_
  conv => whnf
  refine ⟨⟨by omega, by omega⟩, ?_⟩
  conv => whnf
  refine optK_of (row8_get (k := i) (by simp) h8) ?_
  conv => whnf
  refine ⟨⟨by omega, by omega⟩, ?_⟩
  conv => whnf
  refine ⟨by simp; omega, ?_⟩
  conv => whnf
  refine ⟨i + 1, by dsimp only; omega, by dsimp only; omega, sim_of (rn := [((2, 0, 0), (2, 0, 0)), ((3, 0, 0), (3, 0, 0))]) rfl ⟨rfl, rfl, succ64 (by omega), trivial⟩ ⟨⟨_, _, rfl, rfl, ?_⟩, ⟨_, _, rfl, rfl, rfl⟩, trivial⟩⟩
  show some (D.v (.agg ⟨(tab 8 (half i (xorR f g) f)).set (0 + (i : Int).toNat * 1) (.int .u8 (xorR f g i))⟩)) = _
  rw [show 0 + (i : Int).toNat * 1 = i by omega, half_set]

def offV (r : Roof) (f g : Nat → Int) : D := .tup [.v (.int .i64 (if okC r f = true ∧ okC r g = true then cntC (xorR f g) 8 else 0)), .v (.int .i64 (if okC r f = true ∧ okC r g = true then 0 else 1))]

theorem offBy_sat (r : Roof) (hr : r.In) (f g : Nat → Int) (hf : RowIn f) (hg : RowIn g) : Sat Tryd.prog 44 [roofD r, row8D f, row8D g] (offV r f g) := by
  have e0 : ((roofC r).drop 0).take 67 = roofC r := take_drop0 (by simp [roofC])
  have e1 : ∀ f : Nat → Int, ((row8 f).drop 0).take 8 = row8 f := fun f => take_drop0 (by simp)
  have cv : ∀ f, RowIn f → Sat Tryd.prog 47 [D.v (.agg ⟨((roofC r).drop 0).take 67⟩), D.v (.agg ⟨((row8 f).drop 0).take 8⟩)] (.v (.bool (okC r f))) := fun f hf => by rw [e0, e1]; exact validColours_sat r hr f hf
  have co : Sat Tryd.prog 104 [D.v (.agg ⟨((row8 f).drop 0).take 8⟩), D.v (.agg ⟨((row8 g).drop 0).take 8⟩)] (.v (.int .i64 (cntC (xorR f g) 8))) := by rw [e1, e1]; exact off_sat f g hf hg
  refine sat_of_wp hMix tOk Tryd.func44 rfl rfl Tryd.ntmps44 rfl rfl Tryd.results44 (by kernel_rfl) ?_
  conv => whnf
  refine ⟨by simp [roofC], ?_⟩
  conv => whnf
  refine ⟨by simp, ?_⟩
  conv => whnf
  refine ⟨_, _, rfl, cv f hf, ?_⟩
  conv => whnf
  cases h1 : okC r f
  · refine ⟨rfl, _, rfl, ?_⟩
    simp only [offV, h1]; rfl
  conv => whnf
  refine ⟨by simp [roofC], ?_⟩
  conv => whnf
  refine ⟨by simp, ?_⟩
  conv => whnf
  refine ⟨_, _, rfl, cv g hg, ?_⟩
  conv => whnf
  cases h2 : okC r g
  · refine ⟨rfl, _, rfl, ?_⟩
    simp only [offV, h1, h2]; rfl
  conv => whnf
  refine ⟨by simp, ?_⟩
  conv => whnf
  refine ⟨by simp, ?_⟩
  conv => whnf
  refine ⟨_, _, rfl, co, ?_⟩
  conv => whnf
  refine ⟨rfl, _, rfl, ?_⟩
  simp only [offV, h1, h2, and_self, if_true]; rfl

end Go.Proofs.YtdbhfobnmlogeaaDoor
/- Contracts: lists of places. -/
set_option linter.unusedVariables false
set_option linter.unusedSimpArgs false
namespace Go.V
abbrev Pl := Nat × Nat
def placesC : List Pl → List Value
  | [] => []
  | q :: r => .int .i8 q.1 :: .int .i8 q.2 :: placesC r
theorem placesC_append (a b : List Pl) : placesC (a ++ b) = placesC a ++ placesC b := by
  induction a with
  | nil => rfl
  | cons q a ih => simp only [placesC, List.cons_append, ih]
@[simp] theorem placesC_len (a : List Pl) : (placesC a).length = a.length * 2 := by
  induction a with
  | nil => rfl
  | cons q a ih => simp only [placesC, List.length_cons, ih]; omega
theorem placesC_sub : ∀ {a : List Pl} {i : Nat} {q : Pl}, a[i]? = some q → ((placesC a).drop (i * 2)).take 2 = [.int .i8 q.1, .int .i8 q.2]
  | [], i, q, h => by simp at h
  | p :: a, 0, q, h => by
    simp only [List.getElem?_cons_zero, Option.some.injEq] at h
    subst h
    rfl
  | p :: a, i + 1, q, h => by
    rw [show (i + 1) * 2 = i * 2 + 2 by omega]
    have := placesC_sub (a := a) (i := i) (q := q) (by simpa using h)
    simpa [placesC] using this
def rowP (c k : Nat) : List Pl := (List.range k).map fun j => (c, j)
def gridP (w c : Nat) : List Pl := (List.range c).flatMap fun i => rowP i w
theorem rowP_next (c k : Nat) : rowP c (k + 1) = rowP c k ++ [(c, k)] := by
  unfold rowP; rw [List.range_succ, List.map_append]; rfl
theorem gridP_next (w c : Nat) : gridP w (c + 1) = gridP w c ++ rowP c w := by
  unfold gridP; rw [List.range_succ, List.flatMap_append]; simp
@[simp] theorem rowP_zero (c : Nat) : rowP c 0 = [] := rfl
@[simp] theorem gridP_zero (w : Nat) : gridP w 0 = [] := rfl
@[simp] theorem rowP_len (c k : Nat) : (rowP c k).length = k := by unfold rowP; simp
theorem gridP_len (w : Nat) : ∀ c, (gridP w c).length = c * w
  | 0 => by simp
  | c + 1 => by rw [gridP_next, List.length_append, gridP_len w c, rowP_len, Nat.succ_mul]
/-- The places seen so far that are as told. -/
def pick (p : Nat → Nat → Bool) (w c k : Nat) : List Pl := (gridP w c ++ rowP c k).filter fun q => p q.1 q.2
theorem pick_len (p : Nat → Nat → Bool) {w c k : Nat} (hw : w ≤ 8) (hc : c ≤ 8) (hk : k ≤ 8) : (pick p w c k).length ≤ 72 := by
  unfold pick
  refine Nat.le_trans (List.length_filter_le _ _) ?_
  rw [List.length_append, gridP_len, rowP_len]
  have : c * w ≤ 8 * 8 := Nat.mul_le_mul hc hw
  omega
theorem pick_row (p : Nat → Nat → Bool) (w c : Nat) : pick p w (c + 1) 0 = pick p w c w := by
  unfold pick; rw [gridP_next, rowP_zero, List.append_nil]
theorem pick_yes {p : Nat → Nat → Bool} {w c k : Nat} (h : p c k = true) : pick p w c (k + 1) = pick p w c k ++ [(c, k)] := by
  unfold pick; rw [rowP_next, ← List.append_assoc, List.filter_append (l₂ := [(c, k)])]
  simp [h]
theorem pick_no {p : Nat → Nat → Bool} {w c k : Nat} (h : p c k = false) : pick p w c (k + 1) = pick p w c k := by
  unfold pick; rw [rowP_next, ← List.append_assoc, List.filter_append (l₂ := [(c, k)])]
  simp [h]
def placesD (mine : Bool) (ps : List Pl) : D := .row mine 2 (.v (.agg ⟨placesC ps⟩)) ps.length
/-- All places of a roof that are as told, in order. -/
def allP (r : Roof) (p : Nat → Nat → Bool) : List Pl := pick p r.w.toNat r.h.toNat 0
end Go.V
namespace Go.Proofs.YtdbhfobnmlogeaaDoor
open Go.V
theorem l01All_sat (r : Roof) (hr : r.In) (hb : (1 ≤ r.w ∧ r.w ≤ 8) ∧ (1 ≤ r.h ∧ r.h ≤ 8) ∧ r.s ≤ 1) : Sat Tryd.prog 140 [.ref false (roofD r) 0] (placesD true (allP r fun _ _ => true)) := by
  refine sat_of_wp hMix tOk Tryd.func140 rfl rfl Tryd.ntmps140 rfl rfl Tryd.results140 (by kernel_rfl) ?_
  conv => whnf
  refine loop_rule (α := Nat) (fun c => [(0, .ref false (roofD r) 0), (3, .slc true 2 (28, 0, 0) 0 (pick (fun _ _ => true) r.w.toNat c 0).length), (4, .v (.int .i8 c))]) (fun c => [((28, 0, 0), .v (.agg ⟨placesC (pick (fun _ _ => true) r.w.toNat c 0)⟩))]) (fun c => c ≤ r.h.toNat) (fun c => 8 - c) 0 (Nat.zero_le _)
    (sim_of (rn := [((28, 0, 0), (6, 0, 0))]) rfl ⟨rfl, rfl, rfl, trivial⟩ ⟨⟨_, _, rfl, rfl, rfl⟩, trivial⟩) ?_
  intro c hc
  conv => whnf
  cases h4 : decide ((c : Int) < r.h)
  · have h8 : c = r.h.toNat := by simp at h4; omega
    subst h8
    exact ⟨rfl, _, rfl, rfl⟩
  conv => whnf
  have hch : (c : Int) < r.h := by simpa using h4
  refine loop_rule (α := Nat) (fun k => [(0, .ref false (roofD r) 0), (3, .slc true 2 (28, 0, 0) 0 (pick (fun _ _ => true) r.w.toNat c k).length), (4, .v (.int .i8 c)), (5, .v (.int .i8 k))]) (fun k => [((28, 0, 0), .v (.agg ⟨placesC (pick (fun _ _ => true) r.w.toNat c k)⟩))]) (fun k => k ≤ r.w.toNat) (fun k => 8 - k) 0 (Nat.zero_le _)
    (sim_of (rn := [((28, 0, 0), (28, 0, 0))]) rfl ⟨rfl, rfl, rfl, rfl, trivial⟩ ⟨⟨_, _, rfl, rfl, rfl⟩, trivial⟩) ?_
  intro k hk
  conv => whnf
  cases h5 : decide ((k : Int) < r.w)
  · have hkw : k = r.w.toNat := by simp at h5; omega
    subst hkw
    conv => whnf
    refine ⟨c + 1, by dsimp only; omega, by dsimp only; omega, sim_of (rn := [((28, 0, 0), (28, 0, 0))]) rfl ⟨rfl, ?_, succ8 (by omega), trivial⟩ ⟨⟨_, _, rfl, rfl, ?_⟩, trivial⟩⟩
    · rw [pick_row]; rfl
    · rw [pick_row]; rfl
  conv => whnf
  have hkw : (k : Int) < r.w := by simpa using h5
  have hl := pick_len (fun _ _ => true) (w := r.w.toNat) (c := c) (k := k) (by omega) (by omega) (by omega)
  refine ⟨⟨by show (_ + 1) * 2 ≤ 140737488355328; omega, by omega⟩, ?_⟩
  conv => whnf
  refine ⟨k + 1, by dsimp only; omega, by dsimp only; omega, sim_of (rn := [((28, 0, 0), (28, 1, 0))]) rfl ⟨rfl, ?_, rfl, succ8 (by omega), trivial⟩ ⟨⟨_, _, rfl, rfl, ?_⟩, trivial⟩⟩
  · rw [pick_yes rfl, List.length_append]; rfl
  · rw [pick_yes rfl, placesC_append]; rfl

theorem places_sat {g : Nat} {p : Nat → Nat → Bool} (r : Roof) (hr : r.In) (hb : (1 ≤ r.w ∧ r.w ≤ 8) ∧ (1 ≤ r.h ∧ r.h ≤ 8) ∧ r.s ≤ 1) (hg : ∀ c k : Nat, c < 8 → k < 8 → Sat Tryd.prog g [placeD c k] (.v (.bool (p c k)))) :
    Sat Tryd.prog 143 [roofD r, .fn (.func g) [] []] (placesD true (allP r p)) := by
  refine sat_of_wp hMix tOk Tryd.func143 rfl rfl Tryd.ntmps143 rfl rfl Tryd.results143 (by kernel_rfl) ?_
  conv => whnf
  refine loop_rule (α := Nat) (fun c => [(1, .fn (.func g) [] []), (2, .ptr (2, 0, 0) 0), (5, .slc true 2 (28, 0, 0) 0 (pick p r.w.toNat c 0).length), (9, .v (.int .i8 r.h)), (10, .v (.int .i8 c))]) (fun c => [((2, 0, 0), roofD r), ((28, 0, 0), .v (.agg ⟨placesC (pick p r.w.toNat c 0)⟩))]) (fun c => c ≤ r.h.toNat) (fun c => 8 - c) 0 (Nat.zero_le _)
    (sim_of (rn := [((2, 0, 0), (2, 0, 0)), ((28, 0, 0), nilId)]) rfl ⟨rfl, rfl, rfl, rfl, rfl, trivial⟩ ⟨⟨_, _, rfl, rfl, rfl⟩, ⟨_, _, rfl, rfl, rfl⟩, trivial⟩) ?_
  intro c hc
  conv => whnf
  cases h4 : decide ((c : Int) < r.h)
  · have h8 : c = r.h.toNat := by simp at h4; omega
    subst h8
    exact ⟨rfl, _, rfl, rfl⟩
  conv => whnf
  have hch : (c : Int) < r.h := by simpa using h4
  refine loop_rule (α := Nat) (fun k => [(1, .fn (.func g) [] []), (2, .ptr (2, 0, 0) 0), (5, .slc true 2 (28, 0, 0) 0 (pick p r.w.toNat c k).length), (6, .v (.int .i8 c)), (9, .v (.int .i8 r.h)), (10, .v (.int .i8 c)), (14, .v (.int .i8 r.w)), (15, .v (.int .i8 k))]) (fun k => [((2, 0, 0), roofD r), ((28, 0, 0), .v (.agg ⟨placesC (pick p r.w.toNat c k)⟩))]) (fun k => k ≤ r.w.toNat) (fun k => 8 - k) 0 (Nat.zero_le _)
    (sim_of (rn := [((2, 0, 0), (2, 0, 0)), ((28, 0, 0), (28, 0, 0))]) rfl ⟨rfl, rfl, rfl, rfl, rfl, rfl, rfl, rfl, trivial⟩ ⟨⟨_, _, rfl, rfl, rfl⟩, ⟨_, _, rfl, rfl, rfl⟩, trivial⟩) ?_
  intro k hk
  conv => whnf
  cases h5 : decide ((k : Int) < r.w)
  · have hkw : k = r.w.toNat := by simp at h5; omega
    subst hkw
    conv => whnf
    refine ⟨c + 1, by dsimp only; omega, by dsimp only; omega, sim_of (rn := [((2, 0, 0), (2, 0, 0)), ((28, 0, 0), (28, 0, 0))]) rfl ⟨rfl, rfl, ?_, rfl, succ8 (by omega), trivial⟩ ⟨⟨_, _, rfl, rfl, rfl⟩, ⟨_, _, rfl, rfl, ?_⟩, trivial⟩⟩
    · rw [pick_row]; rfl
    · rw [pick_row]; rfl
  conv => whnf
  have hkw : (k : Int) < r.w := by simpa using h5
  refine .inl ⟨_, _, rfl, hg c k (by omega) (by omega), ?_⟩
  conv => whnf
  have hl := pick_len p (w := r.w.toNat) (c := c) (k := k) (by omega) (by omega) (by omega)
  cases hp : p c k
  · conv => whnf
    refine ⟨k + 1, by dsimp only; omega, by dsimp only; omega, sim_of (rn := [((2, 0, 0), (2, 0, 0)), ((28, 0, 0), (28, 0, 0))]) rfl ⟨rfl, rfl, ?_, rfl, rfl, rfl, rfl, succ8 (by omega), trivial⟩ ⟨⟨_, _, rfl, rfl, rfl⟩, ⟨_, _, rfl, rfl, ?_⟩, trivial⟩⟩
    · rw [pick_no hp]; rfl
    · rw [pick_no hp]; rfl
  · conv => whnf
    refine ⟨⟨by show (_ + 1) * 2 ≤ 140737488355328; omega, by omega⟩, ?_⟩
    conv => whnf
    refine ⟨k + 1, by dsimp only; omega, by dsimp only; omega, sim_of (rn := [((2, 0, 0), (2, 0, 0)), ((28, 0, 0), (28, 1, 0))]) rfl ⟨rfl, rfl, ?_, rfl, rfl, rfl, rfl, succ8 (by omega), trivial⟩ ⟨⟨_, _, rfl, rfl, rfl⟩, ⟨_, _, rfl, rfl, ?_⟩, trivial⟩⟩
    · rw [pick_yes hp, List.length_append]; rfl
    · rw [pick_yes hp, placesC_append]; rfl
end Go.Proofs.YtdbhfobnmlogeaaDoor
/- Contracts: valid words. -/
set_option linter.unusedVariables false
set_option linter.unusedSimpArgs false
namespace Go.V
def anyB (p : Int → Bool) (b : ByteArray) : Bool := (List.range b.size).any fun i => p (byteAt b i)
def chOk (n : Int) : Bool := n == 114 || n == 98
def okW (b : ByteArray) : Bool := !anyB (fun n => !chOk n) b && (decide ((b.size : Int) ≥ 1) && decide ((b.size : Int) ≤ 12))
def bytesD (b : ByteArray) : D := .v (.agg ⟨byteVals b⟩)
theorem nth_bytes {b : ByteArray} {i : Nat} (h : i < b.size) : nth (byteVals b) i = some (.int .u8 (byteAt b i)) := by
  rw [nth_eq]
  have h' : i < b.data.size := h
  simp [byteVals, byteAt, List.getD, Array.getElem?_eq_getElem h']
theorem byteAt_range (b : ByteArray) (i : Nat) : 0 ≤ byteAt b i ∧ byteAt b i ≤ 255 := by
  unfold byteAt
  have := (b.data.toList.getD i 0).toNat_lt
  omega
theorem anyB_true {p : Int → Bool} {b : ByteArray} {i : Nat} (hi : i < b.size) (h : p (byteAt b i) = true) : anyB p b = true := by
  unfold anyB; rw [List.any_eq_true]; exact ⟨i, by simpa using hi, h⟩
theorem anyB_false {p : Int → Bool} {b : ByteArray} (h : ∀ i, i < b.size → p (byteAt b i) = false) : anyB p b = false := by
  unfold anyB; rw [List.any_eq_false]; intro i hi; rw [h i (by simpa using hi)]; simp
def idxB (p : Int → Bool) (b : ByteArray) : Int := match (List.range b.size).find? (fun i => p (byteAt b i)) with | some i => (i : Int) | none => -1
theorem idxB_some {p : Int → Bool} {b : ByteArray} {i : Nat} (hi : i < b.size) (h : p (byteAt b i) = true) (hall : ∀ j, j < i → p (byteAt b j) = false) : idxB p b = i := by
  have : (List.range b.size).find? (fun i => p (byteAt b i)) = some i := by
    rw [List.find?_range_eq_some]
    exact ⟨h, by simpa using hi, fun j hj => by simp [hall j hj]⟩
  unfold idxB; rw [this]
theorem idxB_none {p : Int → Bool} {b : ByteArray} (hall : ∀ j, j < b.size → p (byteAt b j) = false) : idxB p b = -1 := by
  have : (List.range b.size).find? (fun i => p (byteAt b i)) = none := by
    rw [List.find?_eq_none]
    intro j hj
    simp [hall j (by simpa using hj)]
  unfold idxB; rw [this]
theorem idxB_any (p : Int → Bool) (b : ByteArray) : decide (idxB p b ≥ 0) = anyB p b := by
  unfold idxB anyB
  cases h : (List.range b.size).find? (fun i => p (byteAt b i)) with
  | none => rw [List.find?_eq_none] at h; symm; simpa using h
  | some i =>
    have := List.find?_some h
    have hm := List.mem_of_find?_eq_some h
    symm
    simp only [ge_iff_le, Int.natCast_nonneg, decide_true]
    rw [List.any_eq_true]
    exact ⟨i, hm, this⟩
end Go.V
namespace Go.Proofs.YtdbhfobnmlogeaaDoor
open Go.V

theorem withinInt_sat (n lo hi : Int) : Sat Tryd.prog 89 [.v (.int .i64 n), .v (.int .i64 lo), .v (.int .i64 hi)] (.v (.bool (decide (lo ≤ n) && decide (n ≤ hi)))) := by
  refine sat_of_wp hMix tOk Tryd.func89 rfl rfl Tryd.ntmps89 rfl rfl Tryd.results89 (by kernel_rfl) ?_
  conv => whnf
  cases h1 : decide (lo ≤ n)
  · exact ⟨rfl, _, rfl, rfl⟩
  · conv => whnf
    cases h2 : decide (n ≤ hi) <;> exact ⟨rfl, _, rfl, rfl⟩

theorem l07Word_sat (b : ByteArray) (hb : b.size ≤ 1048576) : Sat Tryd.prog 101 [.v (.string b)] (.v (.bool (okW b))) := by
  refine sat_of_wp hMix tOk Tryd.func101 rfl rfl Tryd.ntmps101 rfl rfl Tryd.results101 (by kernel_rfl) ?_
  conv => whnf
  refine loop_rule (α := Nat) (fun i => [(0, .v (.string b)), (3, .v (.int .i64 i))]) (fun _ => []) (fun i => i ≤ b.size ∧ ∀ j, j < i → chOk (byteAt b j) = true) (fun i => b.size - i) 0 ⟨by omega, by omega⟩ (sim_of (rn := []) rfl ⟨rfl, rfl, trivial⟩ trivial) ?_
  rintro i ⟨hi, hall⟩
  conv => whnf
  cases h4 : decide ((i : Int) < (b.size : Int))
  · conv => whnf
    refine ⟨_, _, rfl, l00In_sat _ _ _, ?_⟩
    conv => whnf
    refine ⟨rfl, _, rfl, ?_⟩
    have : anyB (fun n => !chOk n) b = false := anyB_false fun j hj => by rw [hall j (by simp at h4; omega)]; rfl
    simp only [okW, this, Bool.not_false, Bool.true_and]; rfl
  conv => whnf
  have hlt : i < b.size := by simp at h4; omega
  refine ⟨⟨by omega, by omega⟩, ?_⟩
  conv => whnf
  have e : ((i : Int)).toNat = i := by omega
  rw [e]
  have bad : chOk (byteAt b i) = false → okW b = false := fun h => by
    have : anyB (fun n => !chOk n) b = true := anyB_true hlt (by rw [h]; rfl)
    simp only [okW, this, Bool.not_true, Bool.false_and]
  have good : chOk (byteAt b i) = true → ∃ y, b.size - y < b.size - i ∧ (y ≤ b.size ∧ ∀ j, j < y → chOk (byteAt b j) = true) ∧ y = i + 1 := fun h => ⟨i + 1, by omega, ⟨by omega, fun j hj => by
    by_cases hji : j = i
    · subst hji; exact h
    · exact hall j (by omega)⟩, rfl⟩
  have hkk : some (D.v (Value.int .i64 ((i + 1 : Nat) : Int))) = some (D.v (.int .i64 (IntKind.i64.wrap (i + 1)))) := by
    congr 1; exact vint (by rw [w64 (by omega) (by omega)]; omega)
  cases h5 : (byteAt b i != 114)
  · conv => whnf
    have h : chOk (byteAt b i) = true := by simp at h5; simp [chOk, h5]
    obtain ⟨y, h1, h2, rfl⟩ := good h
    exact ⟨_, h1, h2, sim_of (rn := []) rfl ⟨rfl, hkk, trivial⟩ trivial⟩
  · conv => whnf
    refine ⟨⟨by omega, by omega⟩, ?_⟩
    conv => whnf
    rw [e]
    cases h6 : (byteAt b i != 98)
    · conv => whnf
      have h : chOk (byteAt b i) = true := by simp at h6; simp [chOk, h6]
      obtain ⟨y, h1, h2, rfl⟩ := good h
      exact ⟨_, h1, h2, sim_of (rn := []) rfl ⟨rfl, hkk, trivial⟩ trivial⟩
    · conv => whnf
      refine ⟨rfl, _, rfl, ?_⟩
      rw [bad (by simp at h5 h6; simp [chOk, h5, h6])]; rfl

section
variable {g : Nat} {p : Int → Bool}
theorem notP_sat (hg : ∀ x, 0 ≤ x → x ≤ 255 → Sat Tryd.prog g [.v (.int .u8 x)] (.v (.bool (p x)))) (x : Int) (h0 : 0 ≤ x) (h1 : x ≤ 255) :
    Sat Tryd.prog 150 [.v (.int .u8 x), .ref false (.agg [.fn (.func g) [] []]) 0] (.v (.bool (!p x))) := by
  refine sat_of_wp hMix tOk Tryd.func150 rfl rfl Tryd.ntmps150 rfl rfl Tryd.results150 (by kernel_rfl) ?_
  conv => whnf
  refine .inl ⟨_, _, rfl, hg x h0 h1, ?_⟩
  exact ⟨rfl, _, rfl, rfl⟩

theorem indexFunc_sat (hg : ∀ x, 0 ≤ x → x ≤ 255 → Sat Tryd.prog g [.v (.int .u8 x)] (.v (.bool (p x)))) (b : ByteArray) (hb : b.size ≤ 1048576) :
    Sat Tryd.prog 165 [.row false 1 (bytesD b) b.size, .fn (.func 150) [] [.ref false (.agg [.fn (.func g) [] []]) 0]] (.v (.int .i64 (idxB (fun x => !p x) b))) := by
  refine sat_of_wp hMix tOk Tryd.func165 rfl rfl Tryd.ntmps165 rfl rfl Tryd.results165 (by kernel_rfl) ?_
  conv => whnf
  refine loop_rule (α := Nat) (fun i => [(0, .row false 1 (bytesD b) b.size), (1, .fn (.func 150) [] [.ref false (.agg [.fn (.func g) [] []]) 0]), (7, .v (.int .i64 b.size)), (8, .v (.int .i64 i))]) (fun _ => []) (fun i => i ≤ b.size ∧ ∀ j, j < i → p (byteAt b j) = true) (fun i => b.size - i) 0 ⟨by omega, by omega⟩ (sim_of (rn := []) rfl ⟨rfl, rfl, rfl, rfl, trivial⟩ trivial) ?_
  rintro i ⟨hi, hall⟩
  conv => whnf
  cases h4 : decide ((i : Int) < (b.size : Int))
  · conv => whnf
    refine ⟨rfl, _, rfl, ?_⟩
    rw [idxB_none fun j hj => by rw [hall j (by simp at h4; omega)]; rfl]; rfl
  conv => whnf
  have hlt : i < b.size := by simp at h4; omega
  refine ⟨⟨by omega, by omega⟩, ?_⟩
  conv => whnf
  have g1 : nth (byteVals b) ((i : Int).toNat * 1) = some (.int .u8 (byteAt b i)) := by
    rw [show (i : Int).toNat * 1 = i by omega]; exact nth_bytes hlt
  refine optK_of g1 ?_
  conv => whnf
  have hr := byteAt_range b i
  refine .inl ⟨_, _, rfl, notP_sat hg _ hr.1 hr.2, ?_⟩
  conv => whnf
  cases h5 : p (byteAt b i)
  · conv => whnf
    refine ⟨rfl, _, rfl, ?_⟩
    rw [idxB_some hlt (by rw [h5]; rfl) fun j hj => by rw [hall j hj]; rfl]; rfl
  · conv => whnf
    have hkk : some (D.v (Value.int .i64 ((i + 1 : Nat) : Int))) = some (D.v (.int .i64 (IntKind.i64.wrap (i + 1)))) := by
      congr 1; exact vint (by rw [w64 (by omega) (by omega)]; omega)
    refine ⟨i + 1, by dsimp only; omega, ⟨by omega, fun j hj => ?_⟩, sim_of (rn := []) rfl ⟨rfl, rfl, rfl, hkk, trivial⟩ trivial⟩
    by_cases hji : j = i
    · subst hji; exact h5
    · exact hall j (by omega)

theorem containsFunc_sat (hg : ∀ x, 0 ≤ x → x ≤ 255 → Sat Tryd.prog g [.v (.int .u8 x)] (.v (.bool (p x)))) (b : ByteArray) (hb : b.size ≤ 1048576) :
    Sat Tryd.prog 149 [.row false 1 (bytesD b) b.size, .fn (.func 150) [] [.ref false (.agg [.fn (.func g) [] []]) 0]] (.v (.bool (anyB (fun x => !p x) b))) := by
  refine sat_of_wp hMix tOk Tryd.func149 rfl rfl Tryd.ntmps149 rfl rfl Tryd.results149 (by kernel_rfl) ?_
  conv => whnf
  refine ⟨_, _, rfl, indexFunc_sat hg b hb, ?_⟩
  conv => whnf
  refine ⟨rfl, _, rfl, ?_⟩
  rw [← idxB_any]; rfl

theorem areAll_sat (hg : ∀ x, 0 ≤ x → x ≤ 255 → Sat Tryd.prog g [.v (.int .u8 x)] (.v (.bool (p x)))) (b : ByteArray) (hb : b.size ≤ 1048576) :
    Sat Tryd.prog 107 [.row false 1 (bytesD b) b.size, .fn (.func g) [] []] (.v (.bool (!anyB (fun x => !p x) b))) := by
  refine sat_of_wp hMix tOk Tryd.func107 rfl rfl Tryd.ntmps107 rfl rfl Tryd.results107 (by kernel_rfl) ?_
  conv => whnf
  refine ⟨_, _, rfl, containsFunc_sat hg b hb, ?_⟩
  exact ⟨rfl, _, rfl, rfl⟩
end

theorem chOk_sat (x : Int) (h0 : 0 ≤ x) (h1 : x ≤ 255) : Sat Tryd.prog 108 [.v (.int .u8 x)] (.v (.bool (chOk x))) := by
  refine sat_of_wp hMix tOk Tryd.func108 rfl rfl Tryd.ntmps108 rfl rfl Tryd.results108 (by kernel_rfl) ?_
  conv => whnf
  cases h : (x == 114)
  · conv => whnf
    refine ⟨rfl, _, rfl, ?_⟩
    simp only [chOk, h, Bool.false_or]; rfl
  · conv => whnf
    refine ⟨rfl, _, rfl, ?_⟩
    simp only [chOk, h, Bool.true_or]; rfl

theorem implValidWord_sat (b : ByteArray) (hb : b.size ≤ 1048576) : Sat Tryd.prog 48 [.v (.string b)] (.v (.bool (okW b))) := by
  refine sat_of_wp hMix tOk Tryd.func48 rfl rfl Tryd.ntmps48 rfl rfl Tryd.results48 (by kernel_rfl) ?_
  conv => whnf
  refine ⟨_, _, rfl, withinInt_sat _ _ _, ?_⟩
  conv => whnf
  cases h : (decide (1 ≤ (b.size : Int)) && decide ((b.size : Int) ≤ 12))
  · conv => whnf
    refine ⟨rfl, _, rfl, ?_⟩
    have : (decide ((b.size : Int) ≥ 1) && decide ((b.size : Int) ≤ 12)) = false := h
    simp only [okW, this, Bool.and_false]; rfl
  · conv => whnf
    refine ⟨_, _, rfl, areAll_sat chOk_sat b hb, ?_⟩
    conv => whnf
    refine ⟨rfl, _, rfl, ?_⟩
    have : (decide ((b.size : Int) ≥ 1) && decide ((b.size : Int) ≤ 12)) = true := h
    simp only [okW, this, Bool.and_true]; rfl

end Go.Proofs.YtdbhfobnmlogeaaDoor
