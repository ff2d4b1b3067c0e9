import Derived.Test.YtejncabmppobfaaVT
import Derived.Test.YtejncabmppobfaaW8
import Derived.DeepKeys
set_option linter.unusedVariables false
set_option linter.unusedSimpArgs false
/- Plain words: tables of cells, roofs, places. -/
set_option linter.unusedVariables false
set_option linter.unusedSimpArgs false
namespace Go.V

/-- n cells by a rule. -/
@[irreducible] def tab (n : Nat) (f : Nat → Value) : List Value := (List.range n).map f
theorem tab_def (n : Nat) (f : Nat → Value) : tab n f = (List.range n).map f := by unfold tab; rfl
@[simp] theorem tab_length (n : Nat) (f : Nat → Value) : (tab n f).length = n := by rw [tab_def]; simp
theorem nth_tab {n : Nat} {f : Nat → Value} {i : Nat} (h : i < n) : nth (tab n f) i = some (f i) := by
  rw [nth_eq, tab_def]; simp [h]
theorem tab_get {n : Nat} {f : Nat → Value} {i : Nat} (h : i < n) : (tab n f)[i]? = some (f i) := by
  rw [tab_def]; simp [h]
theorem tab_none {n : Nat} {f : Nat → Value} {i : Nat} (h : n ≤ i) : (tab n f)[i]? = none := by
  rw [List.getElem?_eq_none_iff, tab_length]; exact h
theorem tab_congr {n : Nat} {f g : Nat → Value} (h : ∀ i, i < n → f i = g i) : tab n f = tab n g := by
  rw [tab_def, tab_def]
  apply List.map_congr_left
  intro i hi
  exact h i (by simpa using hi)
theorem tab_sub {n : Nat} {f : Nat → Value} {o m : Nat} (h : o + m ≤ n) : ((tab n f).drop o).take m = tab m fun i => f (o + i) := by
  apply List.ext_getElem?
  intro i
  rw [List.getElem?_take]
  by_cases hi : i < m
  · rw [if_pos hi, List.getElem?_drop, tab_get (by omega), tab_get hi]
  · rw [if_neg hi, tab_none (by omega)]
theorem tab_set {n : Nat} {f : Nat → Value} {i : Nat} {x : Value} : (tab n f).set i x = tab n fun j => if j = i then x else f j := by
  apply List.ext_getElem?
  intro j
  rw [List.getElem?_set]
  by_cases hj : j < n
  · rw [tab_get hj, tab_get hj]
    by_cases h : i = j
    · subst h; simp [hj]
    · simp [h, Ne.symm h]
  · rw [tab_none (by omega), tab_none (by omega)]
    simp only [tab_length]
    split
    · rw [if_neg (by omega)]
    · rfl
theorem tab_splice {n m o : Nat} {f g : Nat → Value} (h : o + m ≤ n) : splice (tab n f) o (tab m g) = tab n fun j => if o ≤ j ∧ j < o + m then g (j - o) else f j := by
  apply List.ext_getElem?
  intro j
  unfold splice
  simp only [tab_length]
  rw [List.append_assoc, List.getElem?_append, List.getElem?_append]
  simp only [List.length_take, tab_length, List.getElem?_take, List.getElem?_drop]
  have e : min o n = o := by omega
  rw [e]
  by_cases h1 : j < o
  · rw [if_pos h1, if_pos h1, tab_get (by omega), tab_get (by omega), if_neg (by omega)]
  · rw [if_neg h1]
    by_cases h2 : j - o < m
    · rw [if_pos h2, tab_get h2, tab_get (by omega), if_pos (by omega)]
    · rw [if_neg h2]
      by_cases h3 : j < n
      · rw [show o + m + (j - o - m) = j by omega, tab_get h3, tab_get h3, if_neg (by omega)]
      · rw [tab_none (by omega), tab_none (by omega)]

theorem w64 {n : Int} (h1 : -9223372036854775808 ≤ n) (h2 : n ≤ 9223372036854775807) : IntKind.i64.wrap n = n := by
  simp only [IntKind.wrap, IntKind.bits, IntKind.signed, Bool.true_and]
  split <;> rename_i h <;> simp at h <;> omega
theorem w8 {n : Int} (h1 : -128 ≤ n) (h2 : n ≤ 127) : IntKind.i8.wrap n = n := by
  simp only [IntKind.wrap, IntKind.bits, IntKind.signed, Bool.true_and]
  split <;> rename_i h <;> simp at h <;> omega
theorem w32 {n : Int} (h1 : -2147483648 ≤ n) (h2 : n ≤ 2147483647) : IntKind.i32.wrap n = n := by
  simp only [IntKind.wrap, IntKind.bits, IntKind.signed, Bool.true_and]
  split <;> rename_i h <;> simp at h <;> omega
abbrev i64 (n : Int) : D := .v (.int .i64 n)

structure Roof where
  w : Int
  h : Int
  s : Int
  t : Nat → Nat → Int

structure Roof.In (r : Roof) : Prop where
  w : -128 ≤ r.w ∧ r.w ≤ 127
  h : -128 ≤ r.h ∧ r.h ≤ 127
  s : 0 ≤ r.s ∧ r.s ≤ 255
  t : ∀ c k, 0 ≤ r.t c k ∧ r.t c k ≤ 255

def grid (t : Nat → Nat → Int) : List Value := tab 64 fun i => .int .u8 (t (i / 8) (i % 8))
def roofC (r : Roof) : List Value := .int .i8 r.w :: .int .i8 r.h :: .int .u8 r.s :: grid r.t
def roofD (r : Roof) : D := .v (.agg ⟨roofC r⟩)
def placeD (c k : Int) : D := .v (.agg ⟨[.int .i8 c, .int .i8 k]⟩)

theorem grid_get {t : Nat → Nat → Int} {c k : Nat} (hc : c < 8) (hk : k < 8) : nth (grid t) (c * 8 + k) = some (.int .u8 (t c k)) := by
  unfold grid
  rw [nth_tab (by omega)]
  have h1 : (c * 8 + k) / 8 = c := by omega
  have h2 : (c * 8 + k) % 8 = k := by omega
  rw [h1, h2]
theorem roof_get {r : Roof} {i c k : Nat} (hi : i = 3 + c * 8 + k) (hc : c < 8) (hk : k < 8) : nth (roofC r) i = some (.int .u8 (r.t c k)) := by
  subst hi
  rw [show 3 + c * 8 + k = (c * 8 + k) + 3 by omega]
  exact grid_get hc hk

end Go.V
/- Contracts: bounds, kinds, places. -/
set_option linter.unusedVariables false
set_option linter.unusedSimpArgs false
namespace Go.Proofs.Ytejncabmppobfaa
open Go.V

theorem l00In_sat (n lo hi : Int) : Sat Try.prog 98 [.v (.int .i64 n), .v (.int .i64 lo), .v (.int .i64 hi)] (.v (.bool (decide (n ≥ lo) && decide (n ≤ hi)))) := by
  refine sat_of_wp hMix tOk Try.func98 rfl rfl Try.ntmps98 rfl rfl Try.results98 (by kernel_rfl) ?_
  conv => whnf
  cases h1 : decide (n ≥ lo)
  · exact ⟨rfl, _, rfl, rfl⟩
  · conv => whnf
    cases h2 : decide (n ≤ hi) <;> exact ⟨rfl, _, rfl, rfl⟩

theorem within8_sat (n lo hi : Int) : Sat Try.prog 99 [.v (.int .i8 n), .v (.int .i8 lo), .v (.int .i8 hi)] (.v (.bool (decide (lo ≤ n) && decide (n ≤ hi)))) := by
  refine sat_of_wp hMix tOk Try.func99 rfl rfl Try.ntmps99 rfl rfl Try.results99 (by kernel_rfl) ?_
  conv => whnf
  cases h1 : decide (lo ≤ n)
  · exact ⟨rfl, _, rfl, rfl⟩
  · conv => whnf
    cases h2 : decide (n ≤ hi) <;> exact ⟨rfl, _, rfl, rfl⟩

theorem l01Kind_sat (k : Int) : Sat Try.prog 57 [.v (.int .i64 k)] (.v (.bool (decide (k ≥ 0) && decide (k ≤ 3)))) := by
  refine sat_of_wp hMix tOk Try.func57 rfl rfl Try.ntmps57 rfl rfl Try.results57 (by kernel_rfl) ?_
  conv => whnf
  refine ⟨_, _, rfl, l00In_sat _ _ _, ?_⟩
  exact ⟨rfl, _, rfl, rfl⟩

theorem l01Is_sat (r : Roof) (hr : r.In) (c k : Int) (hc : -128 ≤ c ∧ c ≤ 127) (hk : -128 ≤ k ∧ k ≤ 127) :
    Sat Try.prog 56 [.ref false (roofD r) 0, placeD c k] (.v (.bool ((decide (c ≥ 0) && decide (c ≤ r.h - 1)) && (decide (k ≥ 0) && decide (k ≤ r.w - 1))))) := by
  have e1 : IntKind.i64.wrap c = c := w64 (by omega) (by omega)
  have e2 : IntKind.i64.wrap k = k := w64 (by omega) (by omega)
  have e3 : IntKind.i64.wrap r.h = r.h := by have := hr.h; exact w64 (by omega) (by omega)
  have e4 : IntKind.i64.wrap r.w = r.w := by have := hr.w; exact w64 (by omega) (by omega)
  have e5 : IntKind.i64.wrap (r.h - 1) = r.h - 1 := by have := hr.h; exact w64 (by omega) (by omega)
  have e6 : IntKind.i64.wrap (r.w - 1) = r.w - 1 := by have := hr.w; exact w64 (by omega) (by omega)
  refine sat_of_wp hMix tOk Try.func56 rfl rfl Try.ntmps56 rfl rfl Try.results56 (by kernel_rfl) ?_
  conv => whnf
  rw [e1, e3, e5]
  refine ⟨_, _, rfl, l00In_sat _ _ _, ?_⟩
  conv => whnf
  cases h1 : (decide (c ≥ 0) && decide (c ≤ r.h - 1))
  · exact ⟨rfl, _, rfl, rfl⟩
  · conv => whnf
    rw [e2, e4, e6]
    refine ⟨_, _, rfl, l00In_sat _ _ _, ?_⟩
    conv => whnf
    cases h2 : (decide (k ≥ 0) && decide (k ≤ r.w - 1)) <;> exact ⟨rfl, _, rfl, rfl⟩
end Go.Proofs.Ytejncabmppobfaa
/- Contracts: valid roofs. -/
set_option linter.unusedVariables false
set_option linter.unusedSimpArgs false
namespace Go.V
def cellOk (r : Roof) (c k : Nat) : Bool := decide (r.t c k ≤ 3) && (decide (r.t c k = 0) || (decide ((c : Int) < r.h) && decide ((k : Int) < r.w)))
def okR (r : Roof) : Bool := (decide (r.w ≥ 1) && decide (r.w ≤ 8)) && (decide (r.h ≥ 1) && decide (r.h ≤ 8)) && decide (r.s ≤ 1) && (List.range 8).all fun c => (List.range 8).all fun k => cellOk r c k
end Go.V
namespace Go.Proofs.Ytejncabmppobfaa
open Go.V

theorem l01Ok_sat (r : Roof) (hr : r.In) : Sat Try.prog 96 [.ref false (roofD r) 0] (.v (.bool (okR r))) := by
  have e3 : IntKind.i64.wrap r.h = r.h := by have := hr.h; exact w64 (by omega) (by omega)
  have e4 : IntKind.i64.wrap r.w = r.w := by have := hr.w; exact w64 (by omega) (by omega)
  refine sat_of_wp hMix tOk Try.func96 rfl rfl Try.ntmps96 rfl rfl Try.results96 (by kernel_rfl) ?_
  conv => whnf
  rw [e4]
  refine ⟨_, _, rfl, l00In_sat _ _ _, ?_⟩
  conv => whnf
  cases h1 : (decide (r.w ≥ 1) && decide (r.w ≤ 8))
  · exact ⟨rfl, _, rfl, by simp only [okR, h1, Bool.false_and]; rfl⟩
  conv => whnf
  rw [e3]
  refine ⟨_, _, rfl, l00In_sat _ _ _, ?_⟩
  conv => whnf
  cases h2 : (decide (r.h ≥ 1) && decide (r.h ≤ 8))
  · exact ⟨rfl, _, rfl, by simp only [okR, h1, h2, Bool.false_and, Bool.and_false]; rfl⟩
  conv => whnf
  cases h3 : (decide (r.s > 1))
  case true => exact ⟨rfl, _, rfl, by
    have : decide (r.s ≤ 1) = false := by simp at h3 ⊢; omega
    simp only [okR, h1, h2, this, Bool.false_and, Bool.and_false]; rfl⟩
  have h3' : decide (r.s ≤ 1) = true := by simp at h3 ⊢; omega
  conv => whnf
  refine loop_rule (α := Nat) (fun c => [(0, .ref false (roofD r) 0), (3, .v (.int .i8 c))]) (fun _ => []) (fun c => c ≤ 8 ∧ ∀ c', c' < c → ∀ k, k < 8 → cellOk r c' k = true) (fun c => 8 - c) 0 ⟨by omega, by omega⟩ (sim_of (rn := []) rfl ⟨rfl, rfl, trivial⟩ trivial) ?_
  rintro c ⟨hc, hall⟩
  conv => whnf
  cases h4 : decide ((c : Int) < 8)
  · conv => whnf
    refine ⟨rfl, _, rfl, ?_⟩
    have hc8 : c = 8 := by simp at h4; omega
    subst hc8
    have : (List.range 8).all (fun c => (List.range 8).all fun k => cellOk r c k) = true := by
      simp only [List.all_eq_true, List.mem_range]
      exact hall
    simp only [okR, h1, h2, h3', this, Bool.and_self]; rfl
  conv => whnf
  have hc8 : c < 8 := by simp at h4; omega
  refine loop_rule (α := Nat) (fun k => [(0, .ref false (roofD r) 0), (3, .v (.int .i8 c)), (4, .v (.int .i8 k))]) (fun _ => []) (fun k => k ≤ 8 ∧ ∀ k', k' < k → cellOk r c k' = true) (fun k => 8 - k) 0 ⟨by omega, by omega⟩ (sim_of (rn := []) rfl ⟨rfl, rfl, rfl, trivial⟩ trivial) ?_
  rintro k ⟨hk, hrow⟩
  conv => whnf
  cases h5 : decide ((k : Int) < 8)
  · conv => whnf
    refine ⟨c + 1, by dsimp only; omega, ⟨by omega, ?_⟩, sim_of (rn := []) rfl ⟨rfl, ?_, trivial⟩ trivial⟩
    · intro c' hc' k' hk'
      by_cases h : c' = c
      · subst h; exact hrow k' (by simp at h5; omega)
      · exact hall c' (by omega) k' hk'
    · show some _ = some _
      congr 1
      exact vint (by rw [w8 (by omega) (by omega)]; omega)
  conv => whnf
  have hk8 : k < 8 := by simp at h5; omega
  refine ⟨⟨by omega, by omega⟩, ?_⟩
  conv => whnf
  refine ⟨⟨by omega, by omega⟩, ?_⟩
  conv => whnf
  have ht := hr.t c k
  have e5 : IntKind.i64.wrap (r.t c k) = r.t c k := w64 (by omega) (by omega)
  have g1 : nth (roofC r) (0 + 3 + (c : Int).toNat * 8 + (k : Int).toNat * 1) = some (.int .u8 (r.t c k)) := roof_get (by omega) hc8 hk8
  refine optK_of g1 ?_
  conv => whnf
  rw [e5]
  refine ⟨_, _, rfl, l01Kind_sat _, ?_⟩
  conv => whnf
  have hno : ∀ b, cellOk r c k = b → (b = false → okR r = false) ∧ (b = true → ∀ k', k' < k + 1 → cellOk r c k' = true) := by
    rintro b rfl
    refine ⟨fun h => ?_, fun h k' hk' => ?_⟩
    · have : (List.range 8).all (fun c => (List.range 8).all fun k => cellOk r c k) = false := by
        rw [List.all_eq_false]
        refine ⟨c, by simpa using hc8, ?_⟩
        rw [Bool.not_eq_true, List.all_eq_false]
        exact ⟨k, by simpa using hk8, by simp [h]⟩
      simp only [okR, this, Bool.and_false]
    · by_cases hkk : k' = k
      · subst hkk; exact h
      · exact hrow k' (by omega)
  have hk3 : decide (r.t c k ≥ 0) = true := by simp; omega
  cases h6 : (decide (r.t c k ≥ 0) && decide (r.t c k ≤ 3))
  · have hcell : cellOk r c k = false := by
      rw [hk3, Bool.true_and] at h6
      simp only [cellOk, h6, Bool.false_and]
    conv => whnf
    refine ⟨rfl, _, rfl, ?_⟩
    rw [(hno _ hcell).1 rfl]; rfl
  conv => whnf
  refine ⟨_, _, rfl, l01Is_sat r hr c k ⟨by omega, by omega⟩ ⟨by omega, by omega⟩, ?_⟩
  conv => whnf
  have hk3' : decide (r.t c k ≤ 3) = true := by rw [hk3, Bool.true_and] at h6; exact h6
  have hin : (decide ((c : Int) ≥ 0) && decide ((c : Int) ≤ r.h - 1) && (decide ((k : Int) ≥ 0) && decide ((k : Int) ≤ r.w - 1))) = (decide ((c : Int) < r.h) && decide ((k : Int) < r.w)) := by
    rw [Bool.eq_iff_iff]; simp; omega
  rw [hin]
  have hkk : some (D.v (Value.int .i8 ((k + 1 : Nat) : Int))) = some (D.v (.int .i8 (IntKind.i8.wrap (k + 1)))) := by
    congr 1; exact vint (by rw [w8 (by omega) (by omega)]; omega)
  cases h7 : (decide ((c : Int) < r.h) && decide ((k : Int) < r.w))
  · conv => whnf
    have g2 : nth (roofC r) (0 + 3 + (c : Int).toNat * 8 + (k : Int).toNat * 1) = some (.int .u8 (r.t c k)) := roof_get (by omega) hc8 hk8
    refine ⟨⟨by omega, by omega⟩, ?_⟩
    conv => whnf
    refine ⟨⟨by omega, by omega⟩, ?_⟩
    conv => whnf
    refine optK_of g2 ?_
    conv => whnf
    cases h8 : (r.t c k != 0)
    · conv => whnf
      have hcell : cellOk r c k = true := by
        have : decide (r.t c k = 0) = true := by simpa using h8
        simp only [cellOk, hk3', this, Bool.true_or, Bool.and_self]
      exact ⟨k + 1, by dsimp only; omega, ⟨by omega, (hno _ hcell).2 rfl⟩, sim_of (rn := []) rfl ⟨rfl, rfl, hkk, trivial⟩ trivial⟩
    · conv => whnf
      have hcell : cellOk r c k = false := by
        have : decide (r.t c k = 0) = false := by simpa using h8
        simp only [cellOk, h7, this, Bool.or_self, Bool.and_false]
      refine ⟨rfl, _, rfl, ?_⟩
      rw [(hno _ hcell).1 rfl]; rfl
  · conv => whnf
    have hcell : cellOk r c k = true := by
      simp only [cellOk, h7, hk3', Bool.or_true, Bool.and_self]
    exact ⟨k + 1, by dsimp only; omega, ⟨by omega, (hno _ hcell).2 rfl⟩, sim_of (rn := []) rfl ⟨rfl, rfl, hkk, trivial⟩ trivial⟩
end Go.Proofs.Ytejncabmppobfaa
/- Contracts: the laws' own copies of rows, tables, roofs. -/
set_option linter.unusedVariables false
set_option linter.unusedSimpArgs false
namespace Go.V
def row8 (f : Nat → Int) : List Value := tab 8 fun k => .int .u8 (f k)
def row8D (f : Nat → Int) : D := .v (.agg ⟨row8 f⟩)
def gridD (t : Nat → Nat → Int) : D := .v (.agg ⟨grid t⟩)
def partV (n : Nat) (f : Nat → Int) : Nat → Value := fun k => .int .u8 (if k < n then f k else 0)
theorem part_zero (m : Nat) (f : Nat → Int) : tab m (partV 0 f) = List.replicate m (.int .u8 0) := by
  apply List.ext_getElem?
  intro i
  rw [List.getElem?_replicate]
  by_cases h : i < m
  · rw [tab_get h, if_pos h]; simp [partV]
  · rw [tab_none (by omega), if_neg h]
theorem part_set {m n : Nat} {f : Nat → Int} (h : n < m) : (tab m (partV n f)).set n (.int .u8 (f n)) = tab m (partV (n + 1) f) := by
  rw [tab_set]
  apply tab_congr
  intro i hi
  simp only [partV]
  by_cases h1 : i = n
  · subst h1; simp
  · rw [if_neg h1]
    by_cases h2 : i < n
    · rw [if_pos h2, if_pos (by omega)]
    · rw [if_neg h2, if_neg (by omega)]
theorem part_all {m : Nat} {f : Nat → Int} : tab m (partV m f) = tab m fun k => .int .u8 (f k) := by
  apply tab_congr
  intro i hi
  simp only [partV, if_pos hi]
theorem row8_get {f : Nat → Int} {i k : Nat} (hi : i = k) (hk : k < 8) : nth (row8 f) i = some (.int .u8 (f k)) := by
  subst hi
  exact nth_tab hk
@[simp] theorem row8_len (f : Nat → Int) : (row8 f).length = 8 := by unfold row8; simp
@[simp] theorem grid_len (t : Nat → Nat → Int) : (grid t).length = 64 := by unfold grid; simp
/-- The cells of a table as one row. -/
def flat (t : Nat → Nat → Int) (i : Nat) : Int := t (i / 8) (i % 8)
theorem grid_row {t : Nat → Nat → Int} {c o : Nat} (ho : o = c * 8) (hc : c < 8) : ((grid t).drop o).take 8 = row8 (t c) := by
  subst ho
  unfold grid
  rw [tab_sub (by omega)]
  apply tab_congr
  intro i hi
  rw [show (c * 8 + i) / 8 = c by omega, show (c * 8 + i) % 8 = i by omega]
theorem grid_put {t : Nat → Nat → Int} {c o : Nat} (ho : o = c * 8) (hc : c < 8) : splice (tab 64 (partV (c * 8) (flat t))) o (row8 (t c)) = tab 64 (partV ((c + 1) * 8) (flat t)) := by
  subst ho
  unfold row8
  rw [tab_splice (by omega)]
  apply tab_congr
  intro i hi
  simp only [partV, flat]
  by_cases h : c * 8 ≤ i ∧ i < c * 8 + 8
  · rw [if_pos h, if_pos (by omega), show i / 8 = c by omega, show i - c * 8 = i % 8 by omega]
  · rw [if_neg h]
    by_cases h2 : i < c * 8
    · rw [if_pos h2, if_pos (by omega)]
    · rw [if_neg h2, if_neg (by omega)]
theorem roof_grid (r : Roof) : ((roofC r).drop (0 + 3)).take 64 = grid r.t := by
  show (grid r.t).take 64 = grid r.t
  rw [List.take_of_length_le (by simp)]
theorem splice_all {α : Type} {xs ys : List α} (h : xs.length = ys.length) : splice xs 0 ys = ys := by
  unfold splice; simp [← h]
theorem take_drop0 {α : Type} {xs : List α} {n : Nat} (h : xs.length = n) : (xs.drop 0).take n = xs := by
  subst h; simp
/-- What a function of the laws hands back: the block that was made, copied to the result's. -/
theorem copied {xs ys : List Value} {n : Nat} (hx : xs.length = n) (hy : ys.length = n) : ((splice xs 0 ((ys.drop 0).take n)).drop 0).take n = ys := by
  rw [take_drop0 hy, splice_all (by omega), take_drop0 hy]
end Go.V
namespace Go.Proofs.Ytejncabmppobfaa
open Go.V

theorem toByteA8_sat (f : Nat → Int) : Sat Try.prog 77 [row8D f] (row8D f) := by
  refine sat_of_wp hMix tOk Try.func77 rfl rfl Try.ntmps77 rfl rfl Try.results77 (by kernel_rfl) ?_
  conv => whnf
  refine loop_rule (α := Nat) (fun i => [(1, .ptr (1, 0, 0) 0), (2, .ptr (2, 0, 0) 0), (3, .ptr (3, 0, 0) 0), (4, .v (.int .i64 i))])
    (fun i => [((1, 0, 0), row8D f), ((2, 0, 0), .v (.agg ⟨tab 8 (partV 0 f)⟩)), ((3, 0, 0), .v (.agg ⟨tab 8 (partV i f)⟩))]) (fun i => i ≤ 8) (fun i => 8 - i) 0 (Nat.zero_le _)
    (sim_of (rn := [((1, 0, 0), (1, 0, 0)), ((2, 0, 0), (2, 0, 0)), ((3, 0, 0), (3, 0, 0))]) rfl ⟨rfl, rfl, rfl, rfl, trivial⟩ ⟨⟨_, _, rfl, rfl, rfl⟩, ⟨_, _, rfl, rfl, ?_⟩, ⟨_, _, rfl, rfl, ?_⟩, trivial⟩) ?_
  · rw [part_zero]; rfl
  · rw [part_zero]; rfl
  intro i hi
  conv => whnf
  cases h4 : decide ((i : Int) < 8)
  · have h8 : i = 8 := by simp at h4; omega
    subst h8
    conv => whnf
    refine ⟨by simp, ?_⟩
    conv => whnf
    refine ⟨by simp, ?_⟩
    conv => whnf
    refine ⟨by simp, ?_⟩
    refine ⟨by simp [splice], ?_⟩
    conv => whnf
    refine ⟨rfl, _, rfl, ?_⟩
    show D.v (.agg ⟨row8 f⟩) = D.v (.agg ⟨_⟩)
    refine congrArg (fun l => D.v (.agg ⟨l⟩)) (Eq.symm ?_)
    refine (copied (n := 8) (xs := tab 8 (partV 0 f)) (ys := tab 8 (partV 8 f)) (tab_length _ _) (tab_length _ _)).trans ?_
    rw [part_all]; rfl
  conv => whnf
  have h8 : i < 8 := by simp at h4; omega
  refine ⟨⟨by omega, by omega⟩, ?_⟩
  conv => whnf
  refine optK_of (row8_get (by simp) h8) ?_
  conv => whnf
  refine ⟨⟨by omega, by omega⟩, ?_⟩
  conv => whnf
  refine ⟨by simp; omega, ?_⟩
  conv => whnf
  have hkk : some (D.v (Value.int .i64 ((i + 1 : Nat) : Int))) = some (D.v (.int .i64 (IntKind.i64.wrap (i + 1)))) := by
    congr 1; exact vint (by rw [w64 (by omega) (by omega)]; omega)
  refine ⟨i + 1, by dsimp only; omega, by dsimp only; omega, sim_of (rn := [((1, 0, 0), (1, 0, 0)), ((2, 0, 0), (2, 0, 0)), ((3, 0, 0), (3, 0, 0))]) rfl ⟨rfl, rfl, rfl, hkk, trivial⟩ ⟨⟨_, _, rfl, rfl, rfl⟩, ⟨_, _, rfl, rfl, rfl⟩, ⟨_, _, rfl, rfl, ?_⟩, trivial⟩⟩
  show some (D.v (.agg ⟨(tab 8 (partV i f)).set (0 + (i : Int).toNat * 1) _⟩)) = _
  rw [show 0 + (i : Int).toNat * 1 = i by omega, part_set h8]

theorem toByteA8A8_sat (t : Nat → Nat → Int) : Sat Try.prog 36 [gridD t] (gridD t) := by
  refine sat_of_wp hMix tOk Try.func36 rfl rfl Try.ntmps36 rfl rfl Try.results36 (by kernel_rfl) ?_
  conv => whnf
  refine loop_rule (α := Nat) (fun i => [(1, .ptr (1, 0, 0) 0), (2, .ptr (2, 0, 0) 0), (3, .ptr (3, 0, 0) 0), (4, .v (.int .i64 i))])
    (fun i => [((1, 0, 0), gridD t), ((2, 0, 0), .v (.agg ⟨tab 64 (partV 0 (flat t))⟩)), ((3, 0, 0), .v (.agg ⟨tab 64 (partV (i * 8) (flat t))⟩))]) (fun i => i ≤ 8) (fun i => 8 - i) 0 (Nat.zero_le _)
    (sim_of (rn := [((1, 0, 0), (1, 0, 0)), ((2, 0, 0), (2, 0, 0)), ((3, 0, 0), (3, 0, 0))]) rfl ⟨rfl, rfl, rfl, rfl, trivial⟩ ⟨⟨_, _, rfl, rfl, rfl⟩, ⟨_, _, rfl, rfl, ?_⟩, ⟨_, _, rfl, rfl, ?_⟩, trivial⟩) ?_
  · rw [part_zero]; rfl
  · rw [Nat.zero_mul, part_zero]; rfl
  intro i hi
  conv => whnf
  cases h4 : decide ((i : Int) < 8)
  · have h8 : i = 8 := by simp at h4; omega
    subst h8
    conv => whnf
    refine ⟨by simp, ?_⟩
    conv => whnf
    refine ⟨by simp, ?_⟩
    conv => whnf
    refine ⟨by simp, ?_⟩
    conv => whnf
    refine ⟨by simp [splice], ?_⟩
    conv => whnf
    refine ⟨rfl, _, rfl, ?_⟩
    show D.v (.agg ⟨grid t⟩) = D.v (.agg ⟨_⟩)
    refine congrArg (fun l => D.v (.agg ⟨l⟩)) (Eq.symm ?_)
    refine (copied (n := 64) (xs := tab 64 (partV 0 (flat t))) (ys := tab 64 (partV (8 * 8) (flat t))) (tab_length _ _) (tab_length _ _)).trans ?_
    exact part_all
  conv => whnf
  have h8 : i < 8 := by simp at h4; omega
  refine ⟨⟨by omega, by omega⟩, ?_⟩
  conv => whnf
  refine ⟨by simp; omega, ?_⟩
  conv => whnf
  have e : ((grid t).drop (0 + (i : Int).toNat * 8)).take 8 = row8 (t i) := grid_row (by omega) h8
  have e' : Sat Try.prog 77 [D.v (.agg ⟨((grid t).drop (0 + (i : Int).toNat * 8)).take 8⟩)] (row8D (t i)) := by rw [e]; exact toByteA8_sat (t i)
  refine ⟨_, _, rfl, e', ?_⟩
  conv => whnf
  refine ⟨⟨by omega, by omega⟩, ?_⟩
  conv => whnf
  refine ⟨by simp [row8D], ?_⟩
  conv => whnf
  refine ⟨by simp [row8D]; omega, ?_⟩
  conv => whnf
  have hkk : some (D.v (Value.int .i64 ((i + 1 : Nat) : Int))) = some (D.v (.int .i64 (IntKind.i64.wrap (i + 1)))) := by
    congr 1; exact vint (by rw [w64 (by omega) (by omega)]; omega)
  refine ⟨i + 1, by dsimp only; omega, by dsimp only; omega, sim_of (rn := [((1, 0, 0), (1, 0, 0)), ((2, 0, 0), (2, 0, 0)), ((3, 0, 0), (3, 0, 0))]) rfl ⟨rfl, rfl, rfl, hkk, trivial⟩ ⟨⟨_, _, rfl, rfl, rfl⟩, ⟨_, _, rfl, rfl, rfl⟩, ⟨_, _, rfl, rfl, ?_⟩, trivial⟩⟩
  show some (D.v (.agg ⟨splice (tab 64 (partV (i * 8) (flat t))) (0 + (i : Int).toNat * 8) (row8 (t i))⟩)) = _
  rw [show 0 + (i : Int).toNat * 8 = i * 8 by omega, grid_put rfl h8]

theorem toRoof_sat (r : Roof) : Sat Try.prog 11 [roofD r] (roofD r) := by
  refine sat_of_wp hMix tOk Try.func11 rfl rfl Try.ntmps11 rfl rfl Try.results11 (by kernel_rfl) ?_
  conv => whnf
  refine ⟨by simp, ?_⟩
  conv => whnf
  refine ⟨by simp, ?_⟩
  conv => whnf
  refine ⟨by simp, ?_⟩
  conv => whnf
  refine ⟨by simp [roofC], ?_⟩
  conv => whnf
  have e : ((roofC r).drop (0 + 3)).take 64 = grid r.t := roof_grid r
  have e' : Sat Try.prog 36 [D.v (.agg ⟨((roofC r).drop (0 + 3)).take 64⟩)] (gridD r.t) := by rw [e]; exact toByteA8A8_sat r.t
  refine ⟨_, _, rfl, e', ?_⟩
  conv => whnf
  refine ⟨by simp [gridD], ?_⟩
  conv => whnf
  refine ⟨by simp [gridD], ?_⟩
  conv => whnf
  refine ⟨by simp [gridD, splice], ?_⟩
  conv => whnf
  refine ⟨by simp [gridD, splice], ?_⟩
  conv => whnf
  refine ⟨by simp [gridD, splice], ?_⟩
  conv => whnf
  refine ⟨by simp [gridD, splice], ?_⟩
  conv => whnf
  refine ⟨rfl, _, rfl, ?_⟩
  show D.v (.agg ⟨roofC r⟩) = D.v (.agg ⟨_⟩)
  refine congrArg (fun l => D.v (.agg ⟨l⟩)) (Eq.symm ?_)
  have hz : splice (.int .i8 r.w :: .int .i8 r.h :: .int .u8 r.s :: List.replicate 64 (.int .u8 0)) (0 + 3) (grid r.t) = roofC r := by simp [splice, roofC]
  have hl : (splice (.int .i8 r.w :: .int .i8 r.h :: .int .u8 r.s :: List.replicate 64 (.int .u8 0)) (0 + 3) (grid r.t)).length = 67 := by rw [hz]; simp [roofC]
  exact (copied (n := 67) (xs := [Value.int .i8 0, Value.int .i8 0] ++ List.replicate 65 (Value.int .u8 0)) (ys := splice (.int .i8 r.w :: .int .i8 r.h :: .int .u8 r.s :: List.replicate 64 (.int .u8 0)) (0 + 3) (grid r.t)) (by simp) hl).trans hz

end Go.Proofs.Ytejncabmppobfaa
/- Contracts: valid roofs and ages, both sides. -/
set_option linter.unusedVariables false
set_option linter.unusedSimpArgs false
namespace Go.V
def all8 (p : Nat → Nat → Bool) : Bool := (List.range 8).all fun c => (List.range 8).all fun k => p c k
theorem all8_true {p : Nat → Nat → Bool} (h : ∀ c, c < 8 → ∀ k, k < 8 → p c k = true) : all8 p = true := by
  simp only [all8, List.all_eq_true, List.mem_range]
  exact h
theorem all8_false {p : Nat → Nat → Bool} {c k : Nat} (hc : c < 8) (hk : k < 8) (h : p c k = false) : all8 p = false := by
  unfold all8
  rw [List.all_eq_false]
  refine ⟨c, by simpa using hc, ?_⟩
  rw [Bool.not_eq_true, List.all_eq_false]
  exact ⟨k, by simpa using hk, by simp [h]⟩
theorem okR_def (r : Roof) : okR r = (((decide (r.w ≥ 1) && decide (r.w ≤ 8)) && (decide (r.h ≥ 1) && decide (r.h ≤ 8)) && decide (r.s ≤ 1)) && all8 (cellOk r)) := rfl
/-- Rows and cells that have been looked at. -/
def Upto (p : Nat → Nat → Bool) (c : Nat) : Prop := ∀ c', c' < c → ∀ k, k < 8 → p c' k = true
def UptoK (p : Nat → Bool) (k : Nat) : Prop := ∀ k', k' < k → p k' = true
theorem Upto.zero (p : Nat → Nat → Bool) : Upto p 0 := fun c' h => by omega
theorem UptoK.zero (p : Nat → Bool) : UptoK p 0 := fun c' h => by omega
theorem Upto.next {p : Nat → Nat → Bool} {c : Nat} (h : Upto p c) (hr : UptoK (p c) 8) : Upto p (c + 1) := by
  intro c' hc k hk
  by_cases e : c' = c
  · subst e; exact hr k hk
  · exact h c' (by omega) k hk
theorem UptoK.next {p : Nat → Bool} {k : Nat} (h : UptoK p k) (hr : p k = true) : UptoK p (k + 1) := by
  intro k' hk
  by_cases e : k' = k
  · subst e; exact hr
  · exact h k' (by omega)
theorem Upto.all {p : Nat → Nat → Bool} (h : Upto p 8) : all8 p = true := all8_true h
theorem succ64 {n : Nat} (h : n < 4294967296) : some (D.v (Value.int .i64 ((n + 1 : Nat) : Int))) = some (D.v (.int .i64 (IntKind.i64.wrap (n + 1)))) := by
  congr 1; exact vint (by rw [w64 (by omega) (by omega)]; omega)
theorem succ8 {n : Nat} (h : n < 127) : some (D.v (Value.int .i8 ((n + 1 : Nat) : Int))) = some (D.v (.int .i8 (IntKind.i8.wrap (n + 1)))) := by
  congr 1; exact vint (by rw [w8 (by omega) (by omega)]; omega)
/-- A row, rowStored in a new block and read again. -/
theorem rowStored {t : Nat → Nat → Int} {c o : Nat} {zs : List Value} (hz : zs.length = 8) (ho : o = c * 8) (hc : c < 8) : ((splice zs 0 (((grid t).drop o).take 8)).drop 0).take 8 = row8 (t c) := by
  rw [grid_row ho hc, splice_all (by rw [hz]; simp), take_drop0 (by simp)]
end Go.V
namespace Go.Proofs.Ytejncabmppobfaa
open Go.V

theorem validRoof_sat (r : Roof) (hr : r.In) : Sat Try.prog 149 [roofD r] (.v (.bool (okR r))) := by
  have e3 : IntKind.i64.wrap r.h = r.h := by have := hr.h; exact w64 (by omega) (by omega)
  have e4 : IntKind.i64.wrap r.w = r.w := by have := hr.w; exact w64 (by omega) (by omega)
  refine sat_of_wp hMix tOk Try.func149 rfl rfl Try.ntmps149 rfl rfl Try.results149 (by kernel_rfl) ?_
  conv => whnf
  refine ⟨_, _, rfl, within8_sat _ _ _, ?_⟩
  conv => whnf
  cases h1 : (decide (1 ≤ r.w) && decide (r.w ≤ 8))
  · refine ⟨rfl, _, rfl, ?_⟩
    have : (decide (r.w ≥ 1) && decide (r.w ≤ 8)) = false := h1
    simp only [okR_def, this, Bool.false_and]; rfl
  have h1' : (decide (r.w ≥ 1) && decide (r.w ≤ 8)) = true := h1
  conv => whnf
  refine ⟨_, _, rfl, within8_sat _ _ _, ?_⟩
  conv => whnf
  cases h2 : (decide (1 ≤ r.h) && decide (r.h ≤ 8))
  · refine ⟨rfl, _, rfl, ?_⟩
    have : (decide (r.h ≥ 1) && decide (r.h ≤ 8)) = false := h2
    simp only [okR_def, this, Bool.false_and, Bool.and_false]; rfl
  have h2' : (decide (r.h ≥ 1) && decide (r.h ≤ 8)) = true := h2
  conv => whnf
  cases h3 : (decide (r.s > 1))
  case true =>
    refine ⟨rfl, _, rfl, ?_⟩
    have : decide (r.s ≤ 1) = false := by simp at h3 ⊢; omega
    simp only [okR_def, this, Bool.false_and, Bool.and_false]; rfl
  have h3' : decide (r.s ≤ 1) = true := by simp at h3 ⊢; omega
  have hok : okR r = all8 (cellOk r) := by simp only [okR_def, h1', h2', h3', Bool.true_and]
  rw [hok]
  conv => whnf
  refine ⟨by simp [roofC], ?_⟩
  conv => whnf
  refine loop_rule (α := Nat) (fun i => [(1, .ptr (1, 0, 0) 0), (23, gridD r.t), (24, .v (.int .i64 i))]) (fun i => [((1, 0, 0), roofD r)]) (fun i => i ≤ 8 ∧ Upto (cellOk r) i) (fun i => 8 - i) 0 ⟨Nat.zero_le _, Upto.zero _⟩
    (sim_of (rn := [((1, 0, 0), (1, 0, 0))]) rfl ⟨rfl, ?_, rfl, trivial⟩ ⟨⟨_, _, rfl, rfl, rfl⟩, trivial⟩) ?_
  · show some (D.v (.agg ⟨grid r.t⟩)) = some (D.v (.agg ⟨((roofC r).drop (0 + 3)).take 64⟩))
    rw [roof_grid]
  rintro i ⟨hi, hall⟩
  conv => whnf
  cases h4 : decide ((i : Int) < 8)
  · have h8 : i = 8 := by simp at h4; omega
    subst h8
    conv => whnf
    refine ⟨rfl, _, rfl, ?_⟩
    rw [hall.all]; rfl
  conv => whnf
  have h8 : i < 8 := by simp at h4; omega
  refine ⟨⟨by omega, by omega⟩, ?_⟩
  conv => whnf
  refine ⟨by simp; omega, ?_⟩
  conv => whnf
  refine ⟨by simp; omega, ?_⟩
  conv => whnf
  refine ⟨by simp; omega, ?_⟩
  conv => whnf
  refine ⟨by simp [splice]; omega, ?_⟩
  conv => whnf
  refine loop_rule (α := Nat) (fun k => [(1, .ptr (1, 0, 0) 0), (3, .v (.int .i64 i)), (23, gridD r.t), (24, .v (.int .i64 i)), (28, row8D (r.t i)), (29, .v (.int .i64 k))]) (fun _ => [((1, 0, 0), roofD r)]) (fun k => k ≤ 8 ∧ UptoK (cellOk r i) k) (fun k => 8 - k) 0 ⟨Nat.zero_le _, UptoK.zero _⟩
    (sim_of (rn := [((1, 0, 0), (1, 0, 0))]) rfl ⟨rfl, rfl, rfl, rfl, ?_, rfl, trivial⟩ ⟨⟨_, _, rfl, rfl, rfl⟩, trivial⟩) ?_
  · show some (D.v (.agg ⟨row8 (r.t i)⟩)) = some (D.v (.agg ⟨((splice (List.replicate 8 (.int .u8 0)) 0 (((grid r.t).drop ((i : Int).toNat * 8)).take 8)).drop 0).take 8⟩))
    rw [rowStored (by simp) (by omega) h8]
  rintro k ⟨hk, hrow⟩
  conv => whnf
  cases h5 : decide ((k : Int) < 8)
  · have hk8 : k = 8 := by simp at h5; omega
    subst hk8
    conv => whnf
    exact ⟨i + 1, by dsimp only; omega, ⟨by omega, hall.next hrow⟩, sim_of (rn := [((1, 0, 0), (1, 0, 0))]) rfl ⟨rfl, rfl, succ64 (by omega), trivial⟩ ⟨⟨_, _, rfl, rfl, rfl⟩, trivial⟩⟩
  conv => whnf
  have hk8 : k < 8 := by simp at h5; omega
  refine ⟨⟨by omega, by omega⟩, ?_⟩
  conv => whnf
  refine optK_of (row8_get (k := k) (by simp) hk8) ?_
  conv => whnf
  have bad : cellOk r i k = false → all8 (cellOk r) = false := all8_false h8 hk8
  have ht := hr.t i k
  cases h6 : decide (r.t i k > 3)
  case true =>
    conv => whnf
    refine ⟨rfl, _, rfl, ?_⟩
    have : decide (r.t i k ≤ 3) = false := by simp at h6 ⊢; omega
    rw [bad (by simp only [cellOk, this, Bool.false_and])]; rfl
  have h6' : decide (r.t i k ≤ 3) = true := by simp at h6 ⊢; omega
  conv => whnf
  have fin : cellOk r i k = true → ∃ y, 8 - y < 8 - k ∧ (y ≤ 8 ∧ UptoK (cellOk r i) y) ∧ y = k + 1 := fun h => ⟨k + 1, by omega, ⟨by omega, hrow.next h⟩, rfl⟩
  cases h7 : (r.t i k != 0)
  · conv => whnf
    obtain ⟨y, g1, g2, rfl⟩ := fin (by simp at h7; simp [cellOk, h7])
    exact ⟨_, g1, g2, sim_of (rn := [((1, 0, 0), (1, 0, 0))]) rfl ⟨rfl, rfl, rfl, rfl, rfl, succ64 (by omega), trivial⟩ ⟨⟨_, _, rfl, rfl, rfl⟩, trivial⟩⟩
  conv => whnf
  rw [e3]
  have h7' : decide (r.t i k = 0) = false := by simpa using h7
  cases h9 : decide ((i : Int) ≥ r.h)
  · conv => whnf
    rw [e4]
    cases h10 : decide ((k : Int) ≥ r.w)
    · conv => whnf
      obtain ⟨y, g1, g2, rfl⟩ := fin (by simp at h9 h10 h6'; simp [cellOk, h6']; right; omega)
      exact ⟨_, g1, g2, sim_of (rn := [((1, 0, 0), (1, 0, 0))]) rfl ⟨rfl, rfl, rfl, rfl, rfl, succ64 (by omega), trivial⟩ ⟨⟨_, _, rfl, rfl, rfl⟩, trivial⟩⟩
    · conv => whnf
      refine ⟨rfl, _, rfl, ?_⟩
      have : decide ((k : Int) < r.w) = false := by simp at h10 ⊢; omega
      rw [bad (by simp only [cellOk, this, h7', Bool.and_false, Bool.or_self])]; rfl
  · conv => whnf
    refine ⟨rfl, _, rfl, ?_⟩
    have : decide ((i : Int) < r.h) = false := by simp at h9 ⊢; omega
    rw [bad (by simp only [cellOk, this, h7', Bool.false_and, Bool.and_false, Bool.or_self])]; rfl
end Go.Proofs.Ytejncabmppobfaa
/- Contracts: valid ages, both sides. -/
set_option linter.unusedVariables false
set_option linter.unusedSimpArgs false
namespace Go.V
theorem okR_bounds {r : Roof} (h : okR r = true) : (1 ≤ r.w ∧ r.w ≤ 8) ∧ (1 ≤ r.h ∧ r.h ≤ 8) ∧ r.s ≤ 1 := by
  simp only [okR_def, Bool.and_eq_true, decide_eq_true_eq] at h
  omega
theorem grid_at {t : Nat → Nat → Int} {c k o : Nat} (ho : o = c * 8 + k) (hc : c < 8) (hk : k < 8) : nth (grid t) o = some (.int .u8 (t c k)) := by
  subst ho; exact grid_get hc hk
end Go.V
namespace Go.Proofs.Ytejncabmppobfaa
open Go.V

end Go.Proofs.Ytejncabmppobfaa
/- Contracts: valid colours, both sides. -/
set_option linter.unusedVariables false
set_option linter.unusedSimpArgs false
namespace Go.V
theorem UptoK.all {p : Nat → Bool} (h : UptoK p 8) : (List.range 8).all p = true := by
  simp only [List.all_eq_true, List.mem_range]
  exact h
end Go.V
namespace Go.Proofs.Ytejncabmppobfaa
open Go.V

end Go.Proofs.Ytejncabmppobfaa
/- Contracts: mirrored colours, both sides. -/
set_option linter.unusedVariables false
set_option linter.unusedSimpArgs false
namespace Go.V
def orU8 (a b : Int) : Int := IntKind.u8.wrap (BitVec.ofInt IntKind.u8.bits a ||| BitVec.ofInt IntKind.u8.bits b).toNat
theorem eq_toNat {x : Int} (h : 0 ≤ x) : ∃ n : Nat, x = n := ⟨x.toNat, by omega⟩
end Go.V
namespace Go.Proofs.Ytejncabmppobfaa
open Go.V
end Go.Proofs.Ytejncabmppobfaa
/- Contracts: mirrored colours, the program's side, and the law. -/
set_option linter.unusedVariables false
set_option linter.unusedSimpArgs false
namespace Go.V
end Go.V
namespace Go.Proofs.Ytejncabmppobfaa
open Go.V
end Go.Proofs.Ytejncabmppobfaa
/- Contracts: the text of colours, both sides, and the law. -/
set_option linter.unusedVariables false
set_option linter.unusedSimpArgs false
namespace Go.V
end Go.V
namespace Go.Proofs.Ytejncabmppobfaa
open Go.V
end Go.Proofs.Ytejncabmppobfaa
/- Contracts: how many tiles are red, both sides, and the law. -/
set_option linter.unusedVariables false
set_option linter.unusedSimpArgs false
namespace Go.V
end Go.V
namespace Go.Proofs.Ytejncabmppobfaa
open Go.V
end Go.Proofs.Ytejncabmppobfaa
/- Contracts: by how many tiles colours differ, both sides, and the law. -/
set_option linter.unusedVariables false
set_option linter.unusedSimpArgs false
namespace Go.V
end Go.V
namespace Go.Proofs.Ytejncabmppobfaa
open Go.V
end Go.Proofs.Ytejncabmppobfaa
/- Contracts: lists of places. -/
set_option linter.unusedVariables false
set_option linter.unusedSimpArgs false
namespace Go.V
abbrev Pl := Nat × Nat
def placesC : List Pl → List Value
  | [] => []
  | q :: r => .int .i8 q.1 :: .int .i8 q.2 :: placesC r
theorem placesC_append (a b : List Pl) : placesC (a ++ b) = placesC a ++ placesC b := by
  induction a with
  | nil => rfl
  | cons q a ih => simp only [placesC, List.cons_append, ih]
@[simp] theorem placesC_len (a : List Pl) : (placesC a).length = a.length * 2 := by
  induction a with
  | nil => rfl
  | cons q a ih => simp only [placesC, List.length_cons, ih]; omega
theorem placesC_sub : ∀ {a : List Pl} {i : Nat} {q : Pl}, a[i]? = some q → ((placesC a).drop (i * 2)).take 2 = [.int .i8 q.1, .int .i8 q.2]
  | [], i, q, h => by simp at h
  | p :: a, 0, q, h => by
    simp only [List.getElem?_cons_zero, Option.some.injEq] at h
    subst h
    rfl
  | p :: a, i + 1, q, h => by
    rw [show (i + 1) * 2 = i * 2 + 2 by omega]
    have := placesC_sub (a := a) (i := i) (q := q) (by simpa using h)
    simpa [placesC] using this
def rowP (c k : Nat) : List Pl := (List.range k).map fun j => (c, j)
def gridP (w c : Nat) : List Pl := (List.range c).flatMap fun i => rowP i w
theorem rowP_next (c k : Nat) : rowP c (k + 1) = rowP c k ++ [(c, k)] := by
  unfold rowP; rw [List.range_succ, List.map_append]; rfl
theorem gridP_next (w c : Nat) : gridP w (c + 1) = gridP w c ++ rowP c w := by
  unfold gridP; rw [List.range_succ, List.flatMap_append]; simp
@[simp] theorem rowP_zero (c : Nat) : rowP c 0 = [] := rfl
@[simp] theorem gridP_zero (w : Nat) : gridP w 0 = [] := rfl
@[simp] theorem rowP_len (c k : Nat) : (rowP c k).length = k := by unfold rowP; simp
theorem gridP_len (w : Nat) : ∀ c, (gridP w c).length = c * w
  | 0 => by simp
  | c + 1 => by rw [gridP_next, List.length_append, gridP_len w c, rowP_len, Nat.succ_mul]
/-- The places seen so far that are as told. -/
def pick (p : Nat → Nat → Bool) (w c k : Nat) : List Pl := (gridP w c ++ rowP c k).filter fun q => p q.1 q.2
theorem pick_len (p : Nat → Nat → Bool) {w c k : Nat} (hw : w ≤ 8) (hc : c ≤ 8) (hk : k ≤ 8) : (pick p w c k).length ≤ 72 := by
  unfold pick
  refine Nat.le_trans (List.length_filter_le _ _) ?_
  rw [List.length_append, gridP_len, rowP_len]
  have : c * w ≤ 8 * 8 := Nat.mul_le_mul hc hw
  omega
theorem pick_row (p : Nat → Nat → Bool) (w c : Nat) : pick p w (c + 1) 0 = pick p w c w := by
  unfold pick; rw [gridP_next, rowP_zero, List.append_nil]
theorem pick_yes {p : Nat → Nat → Bool} {w c k : Nat} (h : p c k = true) : pick p w c (k + 1) = pick p w c k ++ [(c, k)] := by
  unfold pick; rw [rowP_next, ← List.append_assoc, List.filter_append (l₂ := [(c, k)])]
  simp [h]
theorem pick_no {p : Nat → Nat → Bool} {w c k : Nat} (h : p c k = false) : pick p w c (k + 1) = pick p w c k := by
  unfold pick; rw [rowP_next, ← List.append_assoc, List.filter_append (l₂ := [(c, k)])]
  simp [h]
def placesD (mine : Bool) (ps : List Pl) : D := .row mine 2 (.v (.agg ⟨placesC ps⟩)) ps.length
/-- All places of a roof that are as told, in order. -/
def allP (r : Roof) (p : Nat → Nat → Bool) : List Pl := pick p r.w.toNat r.h.toNat 0
end Go.V
namespace Go.Proofs.Ytejncabmppobfaa
open Go.V
theorem l01All_sat (r : Roof) (hr : r.In) (hb : (1 ≤ r.w ∧ r.w ≤ 8) ∧ (1 ≤ r.h ∧ r.h ≤ 8) ∧ r.s ≤ 1) : Sat Try.prog 84 [.ref false (roofD r) 0] (placesD true (allP r fun _ _ => true)) := by
  refine sat_of_wp hMix tOk Try.func84 rfl rfl Try.ntmps84 rfl rfl Try.results84 (by kernel_rfl) ?_
  conv => whnf
  refine loop_rule (α := Nat) (fun c => [(0, .ref false (roofD r) 0), (3, .slc true 2 (28, 0, 0) 0 (pick (fun _ _ => true) r.w.toNat c 0).length), (4, .v (.int .i8 c))]) (fun c => [((28, 0, 0), .v (.agg ⟨placesC (pick (fun _ _ => true) r.w.toNat c 0)⟩))]) (fun c => c ≤ r.h.toNat) (fun c => 8 - c) 0 (Nat.zero_le _)
    (sim_of (rn := [((28, 0, 0), (6, 0, 0))]) rfl ⟨rfl, rfl, rfl, trivial⟩ ⟨⟨_, _, rfl, rfl, rfl⟩, trivial⟩) ?_
  intro c hc
  conv => whnf
  cases h4 : decide ((c : Int) < r.h)
  · have h8 : c = r.h.toNat := by simp at h4; omega
    subst h8
    exact ⟨rfl, _, rfl, rfl⟩
  conv => whnf
  have hch : (c : Int) < r.h := by simpa using h4
  refine loop_rule (α := Nat) (fun k => [(0, .ref false (roofD r) 0), (3, .slc true 2 (28, 0, 0) 0 (pick (fun _ _ => true) r.w.toNat c k).length), (4, .v (.int .i8 c)), (5, .v (.int .i8 k))]) (fun k => [((28, 0, 0), .v (.agg ⟨placesC (pick (fun _ _ => true) r.w.toNat c k)⟩))]) (fun k => k ≤ r.w.toNat) (fun k => 8 - k) 0 (Nat.zero_le _)
    (sim_of (rn := [((28, 0, 0), (28, 0, 0))]) rfl ⟨rfl, rfl, rfl, rfl, trivial⟩ ⟨⟨_, _, rfl, rfl, rfl⟩, trivial⟩) ?_
  intro k hk
  conv => whnf
  cases h5 : decide ((k : Int) < r.w)
  · have hkw : k = r.w.toNat := by simp at h5; omega
    subst hkw
    conv => whnf
    refine ⟨c + 1, by dsimp only; omega, by dsimp only; omega, sim_of (rn := [((28, 0, 0), (28, 0, 0))]) rfl ⟨rfl, ?_, succ8 (by omega), trivial⟩ ⟨⟨_, _, rfl, rfl, ?_⟩, trivial⟩⟩
    · rw [pick_row]; rfl
    · rw [pick_row]; rfl
  conv => whnf
  have hkw : (k : Int) < r.w := by simpa using h5
  have hl := pick_len (fun _ _ => true) (w := r.w.toNat) (c := c) (k := k) (by omega) (by omega) (by omega)
  refine ⟨⟨by show (_ + 1) * 2 ≤ 140737488355328; omega, by omega⟩, ?_⟩
  conv => whnf
  refine ⟨k + 1, by dsimp only; omega, by dsimp only; omega, sim_of (rn := [((28, 0, 0), (28, 1, 0))]) rfl ⟨rfl, ?_, rfl, succ8 (by omega), trivial⟩ ⟨⟨_, _, rfl, rfl, ?_⟩, trivial⟩⟩
  · rw [pick_yes rfl, List.length_append]; rfl
  · rw [pick_yes rfl, placesC_append]; rfl

end Go.Proofs.Ytejncabmppobfaa
/- Contracts: valid words. -/
set_option linter.unusedVariables false
set_option linter.unusedSimpArgs false
namespace Go.V
end Go.V
namespace Go.Proofs.Ytejncabmppobfaa
open Go.V

theorem withinInt_sat (n lo hi : Int) : Sat Try.prog 134 [.v (.int .i64 n), .v (.int .i64 lo), .v (.int .i64 hi)] (.v (.bool (decide (lo ≤ n) && decide (n ≤ hi)))) := by
  refine sat_of_wp hMix tOk Try.func134 rfl rfl Try.ntmps134 rfl rfl Try.results134 (by kernel_rfl) ?_
  conv => whnf
  cases h1 : decide (lo ≤ n)
  · exact ⟨rfl, _, rfl, rfl⟩
  · conv => whnf
    cases h2 : decide (n ≤ hi) <;> exact ⟨rfl, _, rfl, rfl⟩

section
variable {g : Nat} {p : Int → Bool}
end

end Go.Proofs.Ytejncabmppobfaa
/- Contracts: patterns of words, both sides, and the law. -/
set_option linter.unusedVariables false
set_option linter.unusedSimpArgs false
namespace Go.V
def patB (b : ByteArray) (s c k : Nat) : Bool := byteAt b ((k + s * c) % b.size) == 114
def accS (b : ByteArray) (s : Nat) (f : Nat → Int) (q : Pl) : Nat → Int := fun j => if j = q.1 ∧ patB b s q.1 q.2 = true then orU8 (f j) (IntKind.u8.wrap (1 * 2 ^ (min q.2 IntKind.u8.bits))) else f j
def acc (b : ByteArray) (s : Nat) (ps : List Pl) : Nat → Int := ps.foldl (accS b s) fun _ => 0
theorem allP_true (r : Roof) : (allP r fun _ _ => true) = gridP r.w.toNat r.h.toNat := by
  unfold allP pick; simp
end Go.V
namespace Go.Proofs.Ytejncabmppobfaa
open Go.V
theorem within64_sat (n lo hi : Int) : Sat Try.prog 100 [.v (.int .i64 n), .v (.int .i64 lo), .v (.int .i64 hi)] (.v (.bool (decide (lo ≤ n) && decide (n ≤ hi)))) := by
  refine sat_of_wp hMix tOk Try.func100 rfl rfl Try.ntmps100 rfl rfl Try.results100 (by kernel_rfl) ?_
  conv => whnf
  cases h1 : decide (lo ≤ n)
  · exact ⟨rfl, _, rfl, rfl⟩
  · conv => whnf
    cases h2 : decide (n ≤ hi) <;> exact ⟨rfl, _, rfl, rfl⟩

end Go.Proofs.Ytejncabmppobfaa
/- Contracts: codes of ages, the age of a tile. -/
set_option linter.unusedVariables false
set_option linter.unusedSimpArgs false
namespace Go.V
end Go.V
namespace Go.Proofs.Ytejncabmppobfaa
open Go.V
end Go.Proofs.Ytejncabmppobfaa
/- Contracts: the oldest tile, both sides. -/
set_option linter.unusedVariables false
set_option linter.unusedSimpArgs false
namespace Go.V
def nthP (ps : List Pl) (i : Nat) : Pl := ps.getD i (0, 0)
theorem nthP_some {ps : List Pl} {i : Nat} (h : i < ps.length) : ps[i]? = some (nthP ps i) := by
  unfold nthP; rw [List.getD_eq_getElem?_getD]; simp [h]
def bestL (a : Nat → Nat → Int) (ps : List Pl) : Nat → Pl
  | 0 => nthP ps 0
  | i + 1 => if a (nthP ps (i + 1)).1 (nthP ps (i + 1)).2 > a (bestL a ps i).1 (bestL a ps i).2 then nthP ps (i + 1) else bestL a ps i
def AllIn (ps : List Pl) : Prop := ∀ i, i < ps.length → (nthP ps i).1 < 8 ∧ (nthP ps i).2 < 8
def plD (q : Pl) : D := placeD q.1 q.2
theorem place_load {ps : List Pl} {i o : Nat} (ho : o = i * 2) (h : i < ps.length) : ((placesC ps).drop o).take 2 = [.int .i8 (nthP ps i).1, .int .i8 (nthP ps i).2] := by
  subst ho; exact placesC_sub (nthP_some h)
theorem gridP_in {w h : Nat} (hw : w ≤ 8) (hh : h ≤ 8) : AllIn (gridP w h) := by
  intro i hi
  have hm : nthP (gridP w h) i ∈ gridP w h := List.mem_of_getElem? (nthP_some hi)
  generalize nthP (gridP w h) i = q at hm
  unfold gridP rowP at hm
  simp only [List.mem_flatMap, List.mem_range, List.mem_map] at hm
  obtain ⟨x, hx, j, hj, rfl⟩ := hm
  constructor <;> simp only <;> omega
theorem gridP_size {r : Roof} (hb : (1 ≤ r.w ∧ r.w ≤ 8) ∧ (1 ≤ r.h ∧ r.h ≤ 8) ∧ r.s ≤ 1) : 1 ≤ (gridP r.w.toNat r.h.toNat).length ∧ (gridP r.w.toNat r.h.toNat).length ≤ 72 := by
  rw [gridP_len]
  have h1 : r.h.toNat * r.w.toNat ≤ 8 * 8 := Nat.mul_le_mul (by omega) (by omega)
  have h2 : 1 * 1 ≤ r.h.toNat * r.w.toNat := Nat.mul_le_mul (by omega) (by omega)
  omega
end Go.V
namespace Go.Proofs.Ytejncabmppobfaa
open Go.V
end Go.Proofs.Ytejncabmppobfaa
/- Plain words for use: lengths, looks into grids and lists. -/
set_option linter.unusedVariables false
set_option linter.unusedSimpArgs false
namespace Go.V
@[simp] theorem roofC_len (r : Roof) : (roofC r).length = 67 := by simp [roofC]
theorem gridN {t : Nat → Nat → Int} {c k : Nat} (hc : c < 8) (hk : k < 8) : nth (grid t) (0 + (c : Int).toNat * 8 + (k : Int).toNat * 1) = some (.int .u8 (t c k)) := grid_at (by simp) hc hk
theorem roofN {r : Roof} {c k : Nat} (hc : c < 8) (hk : k < 8) : nth (roofC r) (0 + 3 + (c : Int).toNat * 8 + (k : Int).toNat * 1) = some (.int .u8 (r.t c k)) := roof_get (by simp) hc hk
theorem rowN {t : Nat → Int} {k : Nat} (hk : k < 8) : nth (row8 t) (0 + (k : Int).toNat * 1) = some (.int .u8 (t k)) := row8_get (by simp) hk
theorem vrow {t : Nat → Nat → Int} {c o : Nat} (ho : o = c * 8) (hc : c < 8) : D.v (.agg ⟨((grid t).drop o).take 8⟩) = row8D (t c) := by
  rw [grid_row ho hc]; rfl
theorem vtiles {r : Roof} {o : Nat} (ho : o = 3) : D.v (.agg ⟨((roofC r).drop o).take 64⟩) = gridD r.t := by
  subst ho
  unfold gridD
  simp [roofC, take_full]
/-- A cell of a grid replaced. -/
def putG (t : Nat → Nat → Int) (c k : Nat) (x : Int) : Nat → Nat → Int := fun c' k' => if c' = c ∧ k' = k then x else t c' k'
theorem grid_set {t : Nat → Nat → Int} {c k o : Nat} {x : Int} (ho : o = c * 8 + k) (hc : c < 8) (hk : k < 8) : (grid t).set o (.int .u8 x) = grid (putG t c k x) := by
  subst ho
  unfold grid putG
  rw [tab_set]
  apply tab_congr
  intro i hi
  by_cases h : i = c * 8 + k
  · subst h
    rw [if_pos rfl, if_pos ⟨by omega, by omega⟩]
  · rw [if_neg h, if_neg (by omega)]
def putR (r : Roof) (c k : Nat) (x : Int) : Roof := { r with t := putG r.t c k x }
theorem roof_set {r : Roof} {c k o : Nat} {x : Int} (ho : o = 3 + c * 8 + k) (hc : c < 8) (hk : k < 8) : (roofC r).set o (.int .u8 x) = roofC (putR r c k x) := by
  subst ho
  unfold roofC putR
  rw [show 3 + c * 8 + k = (c * 8 + k) + 1 + 1 + 1 by omega]
  simp only [List.set_cons_succ]
  rw [grid_set rfl hc hk]
theorem putR_in {r : Roof} {c k : Nat} {x : Int} (h : r.In) (h1 : 0 ≤ x ∧ x ≤ 255) : (putR r c k x).In := ⟨h.w, h.h, h.s, fun c' k' => by
  show 0 ≤ putG r.t c k x c' k' ∧ _
  unfold putR putG
  dsimp only
  split
  · exact h1
  · exact h.t c' k'⟩
theorem vplace {ps : List Pl} {i o : Nat} (ho : o = i * 2) (h : i < ps.length) : D.v (.agg ⟨((placesC ps).drop o).take 2⟩) = plD (nthP ps i) := by
  rw [place_load ho h]; rfl
theorem place_get {ps : List Pl} : ∀ {i : Nat}, i < ps.length → nth (placesC ps) (i * 2) = some (.int .i8 (nthP ps i).1) ∧ nth (placesC ps) (i * 2 + 1) = some (.int .i8 (nthP ps i).2) := by
  induction ps with
  | nil => intro i h; simp at h
  | cons p ps ih =>
    intro i h
    cases i with
    | zero => exact ⟨rfl, rfl⟩
    | succ i =>
      rw [show (i + 1) * 2 = i * 2 + 1 + 1 by omega]
      exact ih (by simpa using h)
theorem placeN1 {ps : List Pl} {i o : Nat} (h : i < ps.length) (ho : o = i * 2) : nth (placesC ps) o = some (.int .i8 (nthP ps i).1) := by subst ho; exact (place_get h).1
theorem placeN2 {ps : List Pl} {i o : Nat} (h : i < ps.length) (ho : o = i * 2 + 1) : nth (placesC ps) o = some (.int .i8 (nthP ps i).2) := by subst ho; exact (place_get h).2
theorem placeA {ps : List Pl} {i : Nat} (h : i < ps.length) : nth (placesC ps) (0 + (i : Int).toNat * 2 + 0) = some (.int .i8 (nthP ps i).1) := placeN1 h (by simp)
theorem placeB {ps : List Pl} {i : Nat} (h : i < ps.length) : nth (placesC ps) (0 + (i : Int).toNat * 2 + 1) = some (.int .i8 (nthP ps i).2) := placeN2 h (by simp)
theorem placeA' {ps : List Pl} {i : Nat} (h : i < ps.length) : nth (placesC ps) ((i : Int).toNat * 2 + 0) = some (.int .i8 (nthP ps i).1) := placeN1 h (by simp)
theorem placeB' {ps : List Pl} {i : Nat} (h : i < ps.length) : nth (placesC ps) ((i : Int).toNat * 2 + 1) = some (.int .i8 (nthP ps i).2) := placeN2 h (by simp)
theorem vsplice {xs ys : List Value} {n : Nat} (h : xs.length = ys.length) (h2 : ys.length ≤ n) : D.v (.agg ⟨((splice xs 0 ys).drop 0).take n⟩) = D.v (.agg ⟨ys⟩) := by
  rw [splice_all h, List.drop_zero, take_full h2]
theorem cset {l l' : List Value} (h : l = l') : some (D.v (.agg ⟨l⟩)) = some (D.v (.agg ⟨l'⟩)) := by rw [h]
theorem csplice {xs ys : List Value} (h : xs.length = ys.length) : some (D.v (.agg ⟨splice xs 0 ys⟩)) = some (D.v (.agg ⟨ys⟩)) := by rw [splice_all h]
end Go.V
/- Contracts: the oldest tile, the reference's side. -/
set_option linter.unusedVariables false
set_option linter.unusedSimpArgs false
namespace Go.V
end Go.V
namespace Go.Proofs.Ytejncabmppobfaa
open Go.V
end Go.Proofs.Ytejncabmppobfaa
/- Contracts: OldestOf, both sides, and the law. -/
set_option linter.unusedVariables false
set_option linter.unusedSimpArgs false
namespace Go.V
end Go.V
namespace Go.Proofs.Ytejncabmppobfaa
open Go.V
end Go.Proofs.Ytejncabmppobfaa
/- Contracts: FirstBreak, both sides, and the law. -/
set_option linter.unusedVariables false
set_option linter.unusedSimpArgs false
namespace Go.V
end Go.V
namespace Go.Proofs.Ytejncabmppobfaa
open Go.V
end Go.Proofs.Ytejncabmppobfaa
/- Contracts: equal grids and roofs; ages some years later, both sides, and the law. -/
set_option linter.unusedVariables false
set_option linter.unusedSimpArgs false
namespace Go.V
/- Words for the walks of this text: their default arguments are tried where they are used. -/
end Go.V
namespace Go.V
end Go.V
namespace Go.Proofs.Ytejncabmppobfaa
open Go.V
end Go.Proofs.Ytejncabmppobfaa
/- Contracts: lists of places by a function that carries values with it; marks in lists of places; tiles that are too old. -/
set_option linter.unusedVariables false
set_option linter.unusedSimpArgs false
namespace Go.V
/- Words for the walks of this text: their default arguments are tried where they are used. -/
end Go.V
namespace Go.V
/-- Cells with numbers one after another. -/
def marksC (k : Int) (n : Nat) : List Value := tab n fun j => .int .i8 (IntKind.i8.wrap (k + j))
@[simp] theorem marksC_len (k : Int) (n : Nat) : (marksC k n).length = n := by simp [marksC]
theorem set_next {xs ys : List Value} {v : Value} {n : Nat} (hx : xs.length = n) (h : n < ys.length) : (xs ++ ys.drop n).set n v = (xs ++ [v]) ++ ys.drop (n + 1) := by
  subst hx
  rw [List.set_append_right _ _ (Nat.le_refl _), Nat.sub_self, List.drop_eq_getElem_cons h]
  simp only [List.set_cons_zero, List.append_assoc, List.singleton_append]
theorem marksC_next (k : Int) (n : Nat) : marksC k n ++ [.int .i8 (IntKind.i8.wrap (k + n))] = marksC k (n + 1) := by
  unfold marksC
  rw [tab_def, tab_def, List.range_succ, List.map_append]
  rfl
/-- A list of cells of which the first ones are marked. -/
def markedC (k : Int) (n : Nat) (ys : List Value) : List Value := marksC k n ++ ys.drop n
theorem markedC_set {k : Int} {n : Nat} {ys : List Value} (h : n < ys.length) : (markedC k n ys).set n (.int .i8 (IntKind.i8.wrap (k + n))) = markedC k (n + 1) ys := by
  unfold markedC
  rw [set_next (by simp) h, marksC_next]
theorem markedC_len {k : Int} {n : Nat} {ys : List Value} (h : n ≤ ys.length) : (markedC k n ys).length = ys.length := by
  simp [markedC]; omega
theorem markedC_zero (k : Int) (ys : List Value) : markedC k 0 ys = ys := by simp [markedC, marksC, tab_def]
theorem markedC_all (k : Int) (ys : List Value) : markedC k ys.length ys = marksC k ys.length := by simp [markedC]
end Go.V
namespace Go.Proofs.Ytejncabmppobfaa
open Go.V
end Go.Proofs.Ytejncabmppobfaa
/- Contracts: marks in lists of places; tiles that are too old; broken roofs; the laws. -/
set_option linter.unusedVariables false
set_option linter.unusedSimpArgs false
namespace Go.V
/- Words for the walks of this text: their default arguments are tried where they are used. -/
theorem go_C20 {P Q : Prop} (k : Q) (h : P := by first  | exact rfl | decide | omega | (simp [splice]; done) | (constructor <;> omega) | (simp [splice]; omega)) : P ∧ Q := ⟨h, k⟩
theorem lk_C20 {α : Type} {o : Option α} {K : α → Prop} {x : α} (k : K x) (h : o = some x := by first | exact gridN (by omega) (by omega) | exact rowN (by omega) | exact roofN (by omega) (by omega) | exact placeA (by omega) | exact placeB (by omega) | exact placeA' (by omega) | exact placeB' (by omega) | exact markA (by omega) | exact markB (by omega)) : optK o K := optK_of h k
theorem hold_C20 {P : Prop} (h : P := by (repeat' (first | exact trivial | apply And.intro)) <;> (first | rfl | exact succ8 (by omega) | exact succ64 (by omega) | exact CapOk.fn (by assumption) _ _ | exact vintS (by omega) | exact vintS (by rw [w64 (by omega) (by omega)]; omega) | exact vintS (by rw [w8 (by omega) (by omega)]; omega) | exact vslcS (by omega) | exact vslcS (by simp))) : P := h
theorem okt_C20 {P : Prop} (h : P := by first | omega | (dsimp only; omega) | ((repeat' apply And.intro) <;> omega) | (dsimp only; (repeat' apply And.intro) <;> omega) | trivial) : P := h
end Go.V
namespace Go.V
theorem markN {k : Int} {n o : Nat} (h : o < n) : nth (marksC k n) o = some (.int .i8 (IntKind.i8.wrap (k + o))) := by
  unfold marksC; exact nth_tab h
theorem markA {k : Int} {n i : Nat} (h : i < n) : nth (marksC k (2 * n)) ((i : Int).toNat * 2 + 0) = some (.int .i8 (IntKind.i8.wrap (k + 2 * i))) := by
  rw [markN (by omega)]
  congr 3
  omega
theorem markB {k : Int} {n i : Nat} (h : i < n) : nth (marksC k (2 * n)) ((i : Int).toNat * 2 + 1) = some (.int .i8 (IntKind.i8.wrap (k + 2 * i + 1))) := by
  rw [markN (by omega)]
  congr 3
  omega
theorem allP_eq (r : Roof) (p : Nat → Nat → Bool) : allP r p = (gridP r.w.toNat r.h.toNat).filter fun q => p q.1 q.2 := by
  unfold allP pick; simp
theorem allP_len {r : Roof} (hb : (1 ≤ r.w ∧ r.w ≤ 8) ∧ (1 ≤ r.h ∧ r.h ≤ 8) ∧ r.s ≤ 1) (p : Nat → Nat → Bool) : (allP r p).length ≤ 64 := by
  rw [allP_eq]
  refine Nat.le_trans (List.length_filter_le _ _) ?_
  rw [gridP_len]
  exact Nat.mul_le_mul (show r.h.toNat ≤ 8 by omega) (show r.w.toNat ≤ 8 by omega)
/-- The ones of the first i that are as told. -/
def selP (p : Nat → Nat → Bool) (ps : List Pl) (i : Nat) : List Pl := (ps.take i).filter fun q => p q.1 q.2
theorem selP_all (p : Nat → Nat → Bool) (ps : List Pl) : selP p ps ps.length = ps.filter fun q => p q.1 q.2 := by simp [selP]
theorem take_next {ps : List Pl} {i : Nat} (h : i < ps.length) : ps.take (i + 1) = ps.take i ++ [nthP ps i] := by
  rw [List.take_add_one, nthP_some h]; rfl
theorem selP_yes {p : Nat → Nat → Bool} {ps : List Pl} {i : Nat} (h : i < ps.length) (hp : p (nthP ps i).1 (nthP ps i).2 = true) : selP p ps (i + 1) = selP p ps i ++ [nthP ps i] := by
  unfold selP
  rw [take_next h, List.filter_append]
  simp [hp]
theorem selP_no {p : Nat → Nat → Bool} {ps : List Pl} {i : Nat} (h : i < ps.length) (hp : p (nthP ps i).1 (nthP ps i).2 = false) : selP p ps (i + 1) = selP p ps i := by
  unfold selP
  rw [take_next h, List.filter_append]
  simp [hp]
theorem selP_len (p : Nat → Nat → Bool) (ps : List Pl) (i : Nat) : (selP p ps i).length ≤ ps.length := by
  unfold selP
  refine Nat.le_trans (List.length_filter_le _ _) ?_
  simp; omega
end Go.V
namespace Go.Proofs.Ytejncabmppobfaa
open Go.V
theorem markPlaceS_satM (xs : List Value) (n : Nat) (hx : xs.length = n * 2) (hn : n ≤ 1048576) (k : Int) (hk : 0 ≤ k ∧ k ≤ 1048576) :
    SatM Try.prog 17 [.slc true 2 (lentId 0) 0 n, .v (.int .i64 k)] [.v (.agg ⟨xs⟩)] (.v (.int .i64 (k + 2 * n))) [some (.v (.agg ⟨marksC k (2 * n)⟩))] [] := by
  refine satM_of_wp hMix tOk Try.func17 rfl rfl Try.ntmps17 rfl rfl Try.results17 (by kernel_rfl) ?_
  conv => whnf
  repeat (first | (refine go_C20 ?_; conv => whnf) | (refine lk_C20 ?_; conv => whnf))
  refine loop_rule (α := Nat) (fun i => [(0, .slc true 2 (lentId 0) 0 n), (1, .v (.int .i64 (k + 2 * i))), (5, .v (.int .i64 i))]) (fun i => [(lentId 0, .v (.agg ⟨markedC k (2 * i) xs⟩))]) (fun i => i ≤ n) (fun i => n - i) (0) ?_ (sim_of (rn := []) rfl ?_ ?_) ?_
  · exact okt_C20
  · exact hold_C20
  · ((repeat' (first | exact trivial | apply And.intro)) <;> ((first | refine ⟨_, _, rfl, rfl, ?_⟩ ); first | rfl | (rw [Nat.mul_zero, markedC_zero]; rfl)))
  intro i hi
  have hl : (markedC k (2 * i) xs).length = xs.length := markedC_len (by omega)
  conv => whnf
  repeat (first | (refine go_C20 ?_; conv => whnf) | (refine lk_C20 ?_; conv => whnf))
  cases h : decide ((i : Int) < (n : Int))
  · have hin : i = n := by simp at h; omega
    subst hin
    conv => whnf
    repeat (first | (refine go_C20 ?_; conv => whnf) | (refine lk_C20 ?_; conv => whnf))
    have e : markedC k (2 * i) xs = marksC k (2 * i) := by
      have := markedC_all k xs
      rw [hx] at this
      rw [Nat.mul_comm]; exact this
    refine ⟨[], _, rfl, rfl, rfl, ?_, ?_, rfl⟩
    · rfl
    ((repeat' (first | exact trivial | apply And.intro)) <;> (refine ⟨_, rfl, ?_⟩; first | rfl | (exact cset e)))
  have hin : i < n := by simpa using h
  conv => whnf
  repeat (first | (refine go_C20 ?_; conv => whnf) | (refine lk_C20 ?_; conv => whnf))
  have setM : ((markedC k (2 * i) xs).set (0 + (i : Int).toNat * 2 + 0) (.int .i8 (IntKind.i8.wrap (k + 2 * i)))).set (0 + (i : Int).toNat * 2 + 1) (.int .i8 (IntKind.i8.wrap (IntKind.i64.wrap (k + 2 * i + 1)))) = markedC k (2 * (i + 1)) xs := by
    rw [w64 (by omega) (by omega)]
    have h1 := markedC_set (k := k) (n := 2 * i) (ys := xs) (by omega)
    have h2 := markedC_set (k := k) (n := 2 * i + 1) (ys := xs) (by omega)
    rw [show 0 + (i : Int).toNat * 2 + 0 = 2 * i by omega, show 0 + (i : Int).toNat * 2 + 1 = 2 * i + 1 by omega]
    rw [show k + 2 * (i : Int) = k + ((2 * i : Nat) : Int) by omega, h1, show k + ((2 * i : Nat) : Int) + 1 = k + ((2 * i + 1 : Nat) : Int) by omega, h2]
    rfl
  have ek : IntKind.i64.wrap (IntKind.i64.wrap (k + 2 * i + 1) + 1) = k + 2 * ((i + 1 : Nat) : Int) := by
    rw [w64 (n := k + 2 * i + 1) (by omega) (by omega), w64 (by omega) (by omega)]; omega
  rw [ek]
  refine ⟨i + 1, ?_, ?_, sim_of (rn := []) rfl ?_ ?_⟩
  · (dsimp only; omega)
  · exact okt_C20
  · exact hold_C20
  · ((repeat' (first | exact trivial | apply And.intro)) <;> ((first | refine ⟨_, _, rfl, rfl, ?_⟩ ); first | rfl | (exact cset setM)))
end Go.Proofs.Ytejncabmppobfaa
/- Contracts: broken roofs, both sides, and the law. -/
set_option linter.unusedVariables false
set_option linter.unusedSimpArgs false
namespace Go.V
/- Words for the walks of this text: their default arguments are tried where they are used. -/
theorem go_C21 {P Q : Prop} (k : Q) (h : P := by first  | exact rfl | decide | omega | (simp [splice]; done) | (constructor <;> omega) | (simp [splice]; omega)) : P ∧ Q := ⟨h, k⟩
theorem lk_C21 {α : Type} {o : Option α} {K : α → Prop} {x : α} (k : K x) (h : o = some x := by first | exact gridN (by omega) (by omega) | exact rowN (by omega) | exact roofN (by omega) (by omega) | exact placeA (by omega) | exact placeB (by omega) | exact placeA' (by omega) | exact placeB' (by omega)) : optK o K := optK_of h k
end Go.V
namespace Go.V
def zeroR : Roof := ⟨0, 0, 0, fun _ _ => 0⟩
theorem roofD_copied {r : Roof} {xs : List Value} (hx : xs.length = 67) : D.v (.agg ⟨((splice xs 0 (((roofC r).drop 0).take 67)).drop 0).take 67⟩) = roofD r := by
  rw [copied (n := 67) hx (by simp)]; rfl
end Go.V
namespace Go.Proofs.Ytejncabmppobfaa
open Go.V
theorem with_sat (r : Roof) (c k : Nat) (hc : c < 8) (hk : k < 8) (x : Int) (hx : 0 ≤ x ∧ x ≤ 255) : Sat Try.prog 122 [roofD r, placeD c k, .v (.int .u8 x)] (roofD (putR r c k x)) := by
  refine sat_of_wp hMix tOk Try.func122 rfl rfl Try.ntmps122 rfl rfl Try.results122 (by kernel_rfl) ?_
  conv => whnf
  repeat (first | (refine go_C21 ?_; conv => whnf) | (refine lk_C21 ?_; conv => whnf))
  first | refine ⟨rfl, _, rfl, ?_⟩ | refine ⟨_, rfl, ?_⟩
  skip
  have e := roof_set (r := r) (c := c) (k := k) (o := 0 + 3 + (c : Int).toNat * 8 + (k : Int).toNat * 1) (x := x) (by simp) hc hk
  refine Eq.symm ?_
  refine Eq.trans ?_ (roofD_copied (r := putR r c k x) (xs := [.int .i8 0, .int .i8 0] ++ List.replicate 65 (.int .u8 0)) (by simp))
  rw [← e]; rfl
end Go.Proofs.Ytejncabmppobfaa
/- Plain words: lists of whole numbers. -/
set_option linter.unusedVariables false
set_option linter.unusedSimpArgs false
namespace Go.V
def I64 (x : Int) : Prop := -9223372036854775808 ≤ x ∧ x ≤ 9223372036854775807
def ix (xs : List Int) (i : Nat) : Int := xs.getD i 0
@[irreducible] def intsC (xs : List Int) : List Value := xs.map (Value.int .i64)
theorem intsC_def (xs : List Int) : intsC xs = xs.map (Value.int .i64) := by unfold intsC; rfl
@[simp] theorem intsC_len (xs : List Int) : (intsC xs).length = xs.length := by simp [intsC_def]
theorem intsC_append (xs ys : List Int) : intsC (xs ++ ys) = intsC xs ++ intsC ys := by simp [intsC_def]
theorem intsC_one (x : Int) : intsC [x] = [.int .i64 x] := by simp [intsC_def]
theorem intsC_nil : intsC [] = [] := by simp [intsC_def]
theorem intsC_set (xs : List Int) (i : Nat) (x : Int) : (intsC xs).set i (.int .i64 x) = intsC (xs.set i x) := by simp [intsC_def, List.map_set]
def intsD (m : Bool) (xs : List Int) : D := .row m 1 (.v (.agg ⟨intsC xs⟩)) xs.length
theorem intN {xs : List Int} {i o : Nat} (h : i < xs.length) (ho : o = i) : nth (intsC xs) o = some (.int .i64 (ix xs i)) := by
  subst ho
  rw [nth_eq, intsC_def, List.getElem?_map]
  unfold ix
  rw [List.getD_eq_getElem?_getD]
  simp [h]
theorem intA {xs : List Int} {i : Nat} (h : i < xs.length) : nth (intsC xs) (0 + (i : Int).toNat * 1) = some (.int .i64 (ix xs i)) := intN h (by simp)
theorem intA' {xs : List Int} {i : Nat} (h : i < xs.length) : nth (intsC xs) ((i : Int).toNat * 1) = some (.int .i64 (ix xs i)) := intN h (by simp)
def marksI (k : Int) (n : Nat) : List Int := (List.range n).map fun j => k + (j : Nat)
@[simp] theorem marksI_len (k : Int) (n : Nat) : (marksI k n).length = n := by simp [marksI]
theorem marksI_next (k : Int) (n : Nat) : marksI k (n + 1) = marksI k n ++ [k + n] := by simp [marksI, List.range_succ]
theorem marksI_ix {k : Int} {n j : Nat} (h : j < n) : ix (marksI k n) j = k + j := by
  unfold ix marksI
  rw [List.getD_eq_getElem?_getD]
  simp [h]
theorem markIA {k : Int} {n i : Nat} (h : i < n) : nth (intsC (marksI k n)) ((i : Int).toNat * 1) = some (.int .i64 (k + i)) := by
  rw [intA' (by rw [marksI_len]; exact h), marksI_ix h]
/-- Numbers of which the first ones are marked. -/
def markedI (k : Int) (n : Nat) (xs : List Int) : List Int := marksI k n ++ xs.drop n
theorem markedI_zero (k : Int) (xs : List Int) : markedI k 0 xs = xs := by simp [markedI, marksI]
theorem markedI_len {k : Int} {n : Nat} {xs : List Int} (h : n ≤ xs.length) : (markedI k n xs).length = xs.length := by simp [markedI, marksI_len]; omega
theorem markedI_all (k : Int) (xs : List Int) : markedI k xs.length xs = marksI k xs.length := by simp [markedI]
theorem markedI_set {k : Int} {n : Nat} {xs : List Int} (h : n < xs.length) : (markedI k n xs).set n (k + n) = markedI k (n + 1) xs := by
  unfold markedI
  rw [List.set_append_right _ _ (by rw [marksI_len]; exact Nat.le_refl _), marksI_len, Nat.sub_self, List.drop_eq_getElem_cons h, marksI_next]
  simp only [List.set_cons_zero, List.append_assoc, List.singleton_append]
end Go.V
/- Contracts: lists of whole numbers; visits; the law on visits. -/
set_option linter.unusedVariables false
set_option linter.unusedSimpArgs false
namespace Go.V
/- Words for the walks of this text: their default arguments are tried where they are used. -/
theorem go_C22 {P Q : Prop} (k : Q) (h : P := by first  | exact rfl | decide | omega | (simp [splice]; done) | (constructor <;> omega) | (simp [splice]; omega)) : P ∧ Q := ⟨h, k⟩
theorem lk_C22 {α : Type} {o : Option α} {K : α → Prop} {x : α} (k : K x) (h : o = some x := by first | exact intA (by omega) | exact intA' (by omega) | exact markIA (by omega) | exact gridN (by omega) (by omega) | exact rowN (by omega) | exact roofN (by omega) (by omega) | exact placeA (by omega) | exact placeB (by omega) | exact placeA' (by omega) | exact placeB' (by omega)) : optK o K := optK_of h k
theorem hold_C22 {P : Prop} (h : P := by (repeat' (first | exact trivial | apply And.intro)) <;> (first | rfl | exact succ8 (by omega) | exact succ64 (by omega) | exact CapOk.fn (by assumption) _ _ | exact vintS (by omega) | exact vintS (by rw [w64 (by omega) (by omega)]; omega) | exact vintS (by rw [w8 (by omega) (by omega)]; omega) | exact vslcS (by omega) | exact vslcS (by simp))) : P := h
theorem okt_C22 {P : Prop} (h : P := by first | omega | (dsimp only; omega) | ((repeat' apply And.intro) <;> omega) | (dsimp only; (repeat' apply And.intro) <;> omega) | trivial) : P := h
end Go.V
namespace Go.V
end Go.V
namespace Go.Proofs.Ytejncabmppobfaa
open Go.V
theorem eqInt64S_same (xs : List Int) (hl : xs.length ≤ 1048576) (m m' : Bool) : Sat Try.prog 15 [intsD m xs, intsD m' xs] (.v (.bool true)) := by
  refine sat_of_wp hMix tOk Try.func15 rfl rfl Try.ntmps15 rfl rfl Try.results15 (by kernel_rfl) ?_
  conv => whnf
  repeat (first | (refine go_C22 ?_; conv => whnf) | (refine lk_C22 ?_; conv => whnf))
  rw [show ((xs.length : Int) != (xs.length : Int)) = false by simp]
  conv => whnf
  repeat (first | (refine go_C22 ?_; conv => whnf) | (refine lk_C22 ?_; conv => whnf))
  refine loop_rule (α := Nat) (fun i => [(0, intsD m xs), (1, intsD m' xs), (5, .v (.int .i64 i))]) (fun i => []) (fun i => i ≤ xs.length) (fun i => xs.length - i) (0) ?_ (sim_of (rn := []) rfl ?_ ?_) ?_
  · exact okt_C22
  · exact hold_C22
  · ((repeat' (first | exact trivial | apply And.intro)) <;> ((first | refine ⟨_, _, rfl, rfl, ?_⟩ ); rfl))
  intro i hi
  conv => whnf
  repeat (first | (refine go_C22 ?_; conv => whnf) | (refine lk_C22 ?_; conv => whnf))
  cases h : decide ((i : Int) < (xs.length : Int))
  · conv => whnf
    repeat (first | (refine go_C22 ?_; conv => whnf) | (refine lk_C22 ?_; conv => whnf))
    first | refine ⟨rfl, _, rfl, ?_⟩ | refine ⟨_, rfl, ?_⟩
    rfl
  have hin : i < xs.length := by simpa using h
  conv => whnf
  repeat (first | (refine go_C22 ?_; conv => whnf) | (refine lk_C22 ?_; conv => whnf))
  rw [show (ix xs i != ix xs i) = false by simp]
  conv => whnf
  repeat (first | (refine go_C22 ?_; conv => whnf) | (refine lk_C22 ?_; conv => whnf))
  refine ⟨i + 1, ?_, ?_, sim_of (rn := []) rfl ?_ ?_⟩
  · (dsimp only; omega)
  · exact okt_C22
  · exact hold_C22
  · ((repeat' (first | exact trivial | apply And.intro)) <;> ((first | refine ⟨_, _, rfl, rfl, ?_⟩ ); rfl))
theorem markInt64S_satM (xs : List Int) (hn : xs.length ≤ 1048576) (k : Int) (hk : 0 ≤ k ∧ k ≤ 1048576) :
    SatM Try.prog 18 [.slc true 1 (lentId 0) 0 xs.length, .v (.int .i64 k)] [.v (.agg ⟨intsC xs⟩)] (.v (.int .i64 (k + xs.length))) [some (.v (.agg ⟨intsC (marksI k xs.length)⟩))] [] := by
  refine satM_of_wp hMix tOk Try.func18 rfl rfl Try.ntmps18 rfl rfl Try.results18 (by kernel_rfl) ?_
  conv => whnf
  repeat (first | (refine go_C22 ?_; conv => whnf) | (refine lk_C22 ?_; conv => whnf))
  refine loop_rule (α := Nat) (fun i => [(0, .slc true 1 (lentId 0) 0 xs.length), (1, .v (.int .i64 (k + i))), (5, .v (.int .i64 i))]) (fun i => [(lentId 0, .v (.agg ⟨intsC (markedI k i xs)⟩))]) (fun i => i ≤ xs.length) (fun i => xs.length - i) (0) ?_ (sim_of (rn := []) rfl ?_ ?_) ?_
  · exact okt_C22
  · exact hold_C22
  · ((repeat' (first | exact trivial | apply And.intro)) <;> ((first | refine ⟨_, _, rfl, rfl, ?_⟩ ); first | rfl | (rw [markedI_zero]; rfl)))
  intro i hi
  have hl := markedI_len (k := k) (n := i) (xs := xs) hi
  conv => whnf
  repeat (first | (refine go_C22 ?_; conv => whnf) | (refine lk_C22 ?_; conv => whnf))
  cases h : decide ((i : Int) < (xs.length : Int))
  · have hin : i = xs.length := by simp at h; omega
    subst hin
    conv => whnf
    repeat (first | (refine go_C22 ?_; conv => whnf) | (refine lk_C22 ?_; conv => whnf))
    refine ⟨[], _, rfl, rfl, rfl, ?_, ?_, rfl⟩
    · rfl
    ((repeat' (first | exact trivial | apply And.intro)) <;> (refine ⟨_, rfl, ?_⟩; first | rfl | (exact cset (by rw [markedI_all]))))
  have hin : i < xs.length := by simpa using h
  conv => whnf
  repeat (first | (refine go_C22 ?_; conv => whnf) | (refine lk_C22 ?_; conv => whnf))
  have setA : (intsC (markedI k i xs)).set (0 + (i : Int).toNat * 1) (.int .i64 (k + i)) = intsC (markedI k (i + 1) xs) := by
    rw [show 0 + (i : Int).toNat * 1 = i by omega, intsC_set, markedI_set hin]
  refine ⟨i + 1, ?_, ?_, sim_of (rn := []) rfl ?_ ?_⟩
  · (dsimp only; omega)
  · exact okt_C22
  · exact hold_C22
  · ((repeat' (first | exact trivial | apply And.intro)) <;> ((first | refine ⟨_, _, rfl, rfl, ?_⟩ ); first | rfl | (exact cset setA)))
theorem heldInt64S_sat (n : Nat) (hn : n ≤ 1048576) (k : Int) (hk : 0 ≤ k ∧ k ≤ 1048576) (m : Bool) :
    Sat Try.prog 19 [.row m 1 (.v (.agg ⟨intsC (marksI k n)⟩)) n, .v (.int .i64 k)] (.v (.int .i64 (k + n))) := by
  refine sat_of_wp hMix tOk Try.func19 rfl rfl Try.ntmps19 rfl rfl Try.results19 (by kernel_rfl) ?_
  conv => whnf
  repeat (first | (refine go_C22 ?_; conv => whnf) | (refine lk_C22 ?_; conv => whnf))
  refine loop_rule (α := Nat) (fun i => [(0, .row m 1 (.v (.agg ⟨intsC (marksI k n)⟩)) n), (1, .v (.int .i64 (k + i))), (5, .v (.int .i64 i))]) (fun i => []) (fun i => i ≤ n) (fun i => n - i) (0) ?_ (sim_of (rn := []) rfl ?_ ?_) ?_
  · exact okt_C22
  · exact hold_C22
  · ((repeat' (first | exact trivial | apply And.intro)) <;> ((first | refine ⟨_, _, rfl, rfl, ?_⟩ ); rfl))
  intro i hi
  conv => whnf
  repeat (first | (refine go_C22 ?_; conv => whnf) | (refine lk_C22 ?_; conv => whnf))
  cases h : decide ((i : Int) < (n : Int))
  · have hin : i = n := by simp at h; omega
    subst hin
    conv => whnf
    repeat (first | (refine go_C22 ?_; conv => whnf) | (refine lk_C22 ?_; conv => whnf))
    first | refine ⟨rfl, _, rfl, ?_⟩ | refine ⟨_, rfl, ?_⟩
    rfl
  have hin : i < n := by simpa using h
  conv => whnf
  repeat (first | (refine go_C22 ?_; conv => whnf) | (refine lk_C22 ?_; conv => whnf))
  rw [show (k + (i : Int) != k + (i : Int)) = false by simp]
  conv => whnf
  repeat (first | (refine go_C22 ?_; conv => whnf) | (refine lk_C22 ?_; conv => whnf))
  refine ⟨i + 1, ?_, ?_, sim_of (rn := []) rfl ?_ ?_⟩
  · (dsimp only; omega)
  · exact okt_C22
  · exact hold_C22
  · ((repeat' (first | exact trivial | apply And.intro)) <;> ((first | refine ⟨_, _, rfl, rfl, ?_⟩ ); rfl))
end Go.Proofs.Ytejncabmppobfaa
/- Contracts: visits that are checked, both sides, and the law. -/
set_option linter.unusedVariables false
set_option linter.unusedSimpArgs false
namespace Go.V
end Go.V
namespace Go.Proofs.Ytejncabmppobfaa
open Go.V
end Go.Proofs.Ytejncabmppobfaa
/- Plain words: values of arrays and structs of whole numbers compared. -/
set_option linter.unusedVariables false
set_option linter.unusedSimpArgs false
namespace Go.V
def litOf : Value → Lit
  | .int k z => .int k z
  | _ => .bool false
def litsOf (cs : List Value) : List Lit := cs.map litOf
/-- A cell with a whole number that its kind has. -/
def IntCell : Value → Prop
  | .int k z => (Lit.int k z).wf = true
  | _ => False
theorem litsOf_inj : ∀ {xs ys : List Value}, (∀ x ∈ xs, IntCell x) → (∀ y ∈ ys, IntCell y) → litsOf xs = litsOf ys → xs = ys
  | [], [], _, _, _ => rfl
  | [], y :: ys, _, _, h => by simp [litsOf] at h
  | x :: xs, [], _, _, h => by simp [litsOf] at h
  | x :: xs, y :: ys, hx, hy, h => by
    simp only [litsOf, List.map_cons, List.cons.injEq] at h
    have h1 := hx x (by simp)
    have h2 := hy y (by simp)
    have := litsOf_inj (fun z hz => hx z (by simp [hz])) (fun z hz => hy z (by simp [hz])) h.2
    subst this
    cases x <;> simp only [IntCell] at h1
    cases y <;> simp only [IntCell] at h2
    have h3 := h.1
    simp only [litOf, Lit.int.injEq] at h3
    rw [h3.1, h3.2]
theorem mapM_some {α β : Type} {f : α → Option β} {g : α → β} : ∀ (l : List α), (∀ x ∈ l, f x = some (g x)) → l.mapM f = some (l.map g)
  | [], _ => rfl
  | x :: l, h => by
    rw [List.mapM_cons, h x (by simp), mapM_some l fun y hy => h y (by simp [hy])]
    rfl
section
variable {P : Program}
theorem keyLits_int {d : Nat} {e : TypeId} {k : IntKind} {z : Int} (hu : P.underlying e = some (.int k)) (hw : (Lit.int k z).wf = true) : P.keyLits (d + 1) e [.int k z] = some (litsOf [.int k z]) := by
  unfold Program.keyLits
  simp [hu, hw, litsOf, litOf]
theorem keyLits_struct {d : Nat} {t : TypeId} {fs : Array Field} {cs : List Value} (hu : P.underlying t = some (.struct fs)) (hs : cs.length = P.cellsOf t) (hn : fs.all (·.name != "_") = true)
    (hf : ∀ f ∈ fs.toList, P.keyLits d f.type ((cs.drop f.offset).take (P.cellsOf f.type)) = some (litsOf ((cs.drop f.offset).take (P.cellsOf f.type))))
    (hc : (fs.toList.map fun f => (cs.drop f.offset).take (P.cellsOf f.type)).flatten = cs) : P.keyLits (d + 1) t cs = some (litsOf cs) := by
  unfold Program.keyLits
  simp only [hu]
  rw [if_pos ⟨hs, hn⟩]
  rw [mapM_some (g := fun f => litsOf ((cs.drop f.offset).take (P.cellsOf f.type))) _ hf]
  simp only [Option.map_some, Option.some.injEq]
  conv => rhs; rw [← hc]
  unfold litsOf
  rw [List.map_flatten, List.map_map]
  rfl
theorem eqAgg_of {t : TypeId} {m : Nat} {xs ys : List Value} (hm : m ≤ 10000) (hk : P.keyTypeAt m t = true) (hg : P.eqGuardType P.depth t = false) (fx : Value.formed P t (.agg ⟨xs⟩) = true) (fy : Value.formed P t (.agg ⟨ys⟩) = true) {D D' : Nat}
    (hx : P.keyLits D t xs = some (litsOf xs)) (hy : P.keyLits D' t ys = some (litsOf ys)) (hix : ∀ x ∈ xs, IntCell x) (hiy : ∀ y ∈ ys, IntCell y) {r : Bool} (hr0 : r = true ↔ xs = ys) : EqAgg P t xs ys r := by
  intro w
  refine ⟨fun op x y => run_eqGuard_agg w op t x y ⟨xs⟩ ⟨ys⟩ hg, ?_⟩
  obtain ⟨r', hr, hiff⟩ := run_equalIn_deep (10000 - m) m t hk w D D' (.agg ⟨xs⟩) (.agg ⟨ys⟩) _ _ fx fy hx hy
  have e : (Op.equal t (.agg ⟨xs⟩) (.agg ⟨ys⟩)).run P w = .ok r' w := by
    unfold Op.equal Op.maxDepth
    rw [show 10000 = 10000 - m + m by omega]
    exact hr
  rw [e]
  congr 1
  rw [Bool.eq_iff_iff, hiff, hr0]
  exact ⟨litsOf_inj hix hiy, fun h => by rw [h]⟩
end
end Go.V
/- Contracts: all words, patterns found again, both sides, and the law. -/
set_option linter.unusedVariables false
set_option linter.unusedSimpArgs false
namespace Go.V
def letB : ByteArray := ⟨#[98]⟩
def letR : ByteArray := ⟨#[114]⟩
/-- The j-th word of n letters. -/
def word : Nat → Nat → ByteArray
  | 0, _ => ⟨#[]⟩
  | n + 1, j => word n (j / 2) ++ (if j % 2 = 1 then letR else letB)
@[simp] theorem word_size : ∀ n j, (word n j).size = n
  | 0, _ => rfl
  | n + 1, j => by
    have h1 := word_size n (j / 2)
    have h2 : (if j % 2 = 1 then letR else letB).size = 1 := by split <;> rfl
    simp only [word, ByteArray.size_append, h1, h2]
@[irreducible] def wordsC (n m : Nat) : List Value := tab m fun j => .string (word n j)
@[simp] theorem wordsC_len (n m : Nat) : (wordsC n m).length = m := by unfold wordsC; simp
theorem find_some {p : Nat → Bool} {n s : Nat} (h : s < n) (hp : p s = true) (hno : ∀ j, j < s → p j = false) : (List.range n).find? p = some s := by
  rw [List.find?_range_eq_some]
  exact ⟨hp, by simpa using h, fun j hj => by simp [hno j hj]⟩
theorem find_none {p : Nat → Bool} {n : Nat} (hno : ∀ j, j < n → p j = false) : (List.range n).find? p = none := by
  rw [List.find?_eq_none]
  intro x hx
  simp [hno x (by simpa using hx)]
theorem below_succ {p : Nat → Prop} {q : Nat} (h : ∀ k, k < q → p k) (hq : p q) : ∀ k, k < q + 1 → p k := by
  intro k hk
  by_cases e : k = q
  · subst e; exact hq
  · exact h k (by omega)
end Go.V
namespace Go.Proofs.Ytejncabmppobfaa
open Go.V
end Go.Proofs.Ytejncabmppobfaa
/- Contracts: patterns found again, the reference's side, and the law. -/
set_option linter.unusedVariables false
set_option linter.unusedSimpArgs false
namespace Go.V
end Go.V
namespace Go.Proofs.Ytejncabmppobfaa
open Go.V
end Go.Proofs.Ytejncabmppobfaa
/- Contracts: something of each place; what has to be replaced, both sides, and the law. -/
set_option linter.unusedVariables false
set_option linter.unusedSimpArgs false
namespace Go.V
def newB (life nx y b : Int) : Int := if nx - b > life then y else b
/-- The first k tiles seen to. -/
def bornS (life nx y : Int) (born : List Int) (k : Nat) : List Int := (born.take k).map (newB life nx y) ++ born.drop k
def cntS (life nx : Int) (born : List Int) (k : Nat) : Nat := (born.take k).countP fun b => decide (nx - b > life)
def nxAt (years : Int) (vs : List Int) (i : Nat) : Int := if i + 1 < vs.length then ix vs (i + 1) else years
def bornI (life years : Int) (vs b0 : List Int) : Nat → List Int
  | 0 => b0
  | i + 1 => bornS life (nxAt years vs i) (ix vs i) (bornI life years vs b0 i) b0.length
def outI (life years : Int) (vs b0 : List Int) : Nat → List Int
  | 0 => []
  | i + 1 => outI life years vs b0 i ++ [((cntS life (nxAt years vs i) (bornI life years vs b0 i) b0.length : Nat) : Int)]
@[simp] theorem bornS_len (life nx y : Int) (born : List Int) (k : Nat) : (bornS life nx y born k).length = born.length := by
  simp [bornS]
  omega
@[simp] theorem bornI_len (life years : Int) (vs b0 : List Int) : ∀ i, (bornI life years vs b0 i).length = b0.length
  | 0 => rfl
  | i + 1 => by simp only [bornI, bornS_len]; exact bornI_len life years vs b0 i
@[simp] theorem outI_len (life years : Int) (vs b0 : List Int) : ∀ i, (outI life years vs b0 i).length = i
  | 0 => rfl
  | i + 1 => by simp only [outI, List.length_append, outI_len life years vs b0 i]; rfl
end Go.V
namespace Go.Proofs.Ytejncabmppobfaa
open Go.V
end Go.Proofs.Ytejncabmppobfaa
/- Plain words: lists of strings. -/
set_option linter.unusedVariables false
set_option linter.unusedSimpArgs false
namespace Go.V
def sx (ws : List ByteArray) (i : Nat) : ByteArray := ws.getD i ⟨#[]⟩
structure StrsIn (ws : List ByteArray) : Prop where
  len : ws.length ≤ 9223372036854775807
  sz : ∀ i, i < ws.length → (sx ws i).size ≤ 9223372036854775807
@[irreducible] def strsC (ws : List ByteArray) : List Value := ws.map Value.string
theorem strsC_def (ws : List ByteArray) : strsC ws = ws.map Value.string := by unfold strsC; rfl
@[simp] theorem strsC_len (ws : List ByteArray) : (strsC ws).length = ws.length := by simp [strsC_def]
def strsD (m : Bool) (ws : List ByteArray) : D := .row m 1 (.v (.agg ⟨strsC ws⟩)) ws.length
theorem sx_mem {ws : List ByteArray} {i : Nat} (h : i < ws.length) : sx ws i ∈ ws := by
  unfold sx
  rw [List.getD_eq_getElem?_getD]
  simp [h]
end Go.V
/- Contracts: the nearest pattern, both sides, and the law. -/
set_option linter.unusedVariables false
set_option linter.unusedSimpArgs false
namespace Go.V
end Go.V
namespace Go.Proofs.Ytejncabmppobfaa
open Go.V
end Go.Proofs.Ytejncabmppobfaa
/- Plain words: gutters, their pipes, and water. -/
set_option linter.unusedVariables false
set_option linter.unusedSimpArgs false
namespace Go.V
structure Gut where
  n : Int
  dp : Int
  h : Nat → Int
  lv : Int
  ps : List (Int × Int)
def px (ps : List (Int × Int)) (i : Nat) : Int × Int := ps.getD i (0, 0)
structure Gut.In (g : Gut) : Prop where
  n : -128 ≤ g.n ∧ g.n ≤ 127
  dp : -32768 ≤ g.dp ∧ g.dp ≤ 32767
  h : ∀ i, -128 ≤ g.h i ∧ g.h i ≤ 127
  lv : 0 ≤ g.lv ∧ g.lv ≤ 4294967295
  ps : ∀ i, i < g.ps.length → (-128 ≤ (px g.ps i).1 ∧ (px g.ps i).1 ≤ 127) ∧ (-32768 ≤ (px g.ps i).2 ∧ (px g.ps i).2 ≤ 32767)
  len : g.ps.length ≤ 9223372036854775807
@[irreducible] def pipesC (ps : List (Int × Int)) : List Value := ps.flatMap fun q => [.int .i8 q.1, .int .i16 q.2]
theorem pipesC_def (ps : List (Int × Int)) : pipesC ps = ps.flatMap fun q => [.int .i8 q.1, .int .i16 q.2] := by unfold pipesC; rfl
theorem pipesC_cons (q : Int × Int) (ps : List (Int × Int)) : pipesC (q :: ps) = .int .i8 q.1 :: .int .i16 q.2 :: pipesC ps := by simp [pipesC_def]
theorem pipesC_nil : pipesC [] = [] := by simp [pipesC_def]
@[simp] theorem pipesC_len (ps : List (Int × Int)) : (pipesC ps).length = ps.length * 2 := by
  induction ps with
  | nil => simp [pipesC_nil]
  | cons q ps ih => simp only [pipesC_cons, List.length_cons, ih]; omega
def hD (h : Nat → Int) : List D := [.v (.int .i8 (h 0)), .v (.int .i8 (h 1)), .v (.int .i8 (h 2)), .v (.int .i8 (h 3)), .v (.int .i8 (h 4)), .v (.int .i8 (h 5)), .v (.int .i8 (h 6)), .v (.int .i8 (h 7)), .v (.int .i8 (h 8)), .v (.int .i8 (h 9)), .v (.int .i8 (h 10)), .v (.int .i8 (h 11)), .v (.int .i8 (h 12)), .v (.int .i8 (h 13)), .v (.int .i8 (h 14)), .v (.int .i8 (h 15)), .v (.int .i8 (h 16))]
def hV (h : Nat → Int) : List Value := [.int .i8 (h 0), .int .i8 (h 1), .int .i8 (h 2), .int .i8 (h 3), .int .i8 (h 4), .int .i8 (h 5), .int .i8 (h 6), .int .i8 (h 7), .int .i8 (h 8), .int .i8 (h 9), .int .i8 (h 10), .int .i8 (h 11), .int .i8 (h 12), .int .i8 (h 13), .int .i8 (h 14), .int .i8 (h 15), .int .i8 (h 16)]
def pipesD (m : Bool) (ps : List (Int × Int)) : D := .row m 2 (.v (.agg ⟨pipesC ps⟩)) ps.length
def gutL (m : Bool) (g : Gut) : List D := .v (.int .i8 g.n) :: .v (.int .i16 g.dp) :: (hD g.h ++ [.v (.int .u32 g.lv), pipesD m g.ps])
def gutD (m : Bool) (g : Gut) : D := .agg (gutL m g)
/-- Water. -/
def watC (w : Nat → Int) : List Value := tab 17 fun i => .int .i32 (w i)
@[simp] theorem watC_len (w : Nat → Int) : (watC w).length = 17 := by simp [watC]
def watD (w : Nat → Int) : D := .v (.agg ⟨watC w⟩)
structure WatIn (w : Nat → Int) : Prop where
  t : ∀ i, -2147483648 ≤ w i ∧ w i ≤ 2147483647
theorem watN {w : Nat → Int} {o i : Nat} (ho : o = i) (h : i < 17) : nth (watC w) o = some (.int .i32 (w i)) := by subst ho; unfold watC; rw [nth_tab h]
theorem watA {w : Nat → Int} {i : Nat} (h : i < 17) : nth (watC w) (0 + (i : Int).toNat * 1) = some (.int .i32 (w i)) := watN (by simp) h
theorem watA' {w : Nat → Int} {i : Nat} (h : i < 17) : nth (watC w) ((i : Int).toNat * 1) = some (.int .i32 (w i)) := watN (by simp) h
def putW (w : Nat → Int) (c : Nat) (x : Int) : Nat → Int := fun j => if j = c then x else w j
/-- What is valid. -/
def deepB (x : Int) : Bool := decide (0 ≤ x) && decide (x ≤ 1000)
end Go.V
/- Contracts: what the laws do with gutters and water. -/
set_option linter.unusedVariables false
set_option linter.unusedSimpArgs false
namespace Go.V
/-- Of an array the first k cells of another one. -/
def mix (x f : Nat → Int) (k : Nat) : Nat → Int := fun j => if j < k then x j else f j
theorem mix_zero (x f : Nat → Int) : mix x f 0 = f := by funext j; simp [mix]
theorem mix_put {x f : Nat → Int} {k : Nat} : putW (mix x f k) k (x k) = mix x f (k + 1) := by
  funext j
  unfold putW mix
  by_cases h : j = k
  · subst h; simp
  · rw [if_neg h]
    by_cases h2 : j < k
    · rw [if_pos h2, if_pos (by omega)]
    · rw [if_neg h2, if_neg (by omega)]
/-- Heights as cells. -/
def hC (h : Nat → Int) : List Value := tab 17 fun i => .int .i8 (h i)
@[simp] theorem hC_len (h : Nat → Int) : (hC h).length = 17 := by simp [hC]
def cpQ (ps : List (Int × Int)) (i : Nat) : List (Int × Int) := ps.take i ++ List.replicate (ps.length - i) (0, 0)
theorem cpQ_len {ps : List (Int × Int)} {i : Nat} (h : i ≤ ps.length) : (cpQ ps i).length = ps.length := by simp [cpQ]; omega
theorem cpQ_all (ps : List (Int × Int)) : cpQ ps ps.length = ps := by simp [cpQ]
end Go.V
namespace Go.Proofs.Ytejncabmppobfaa
open Go.V
end Go.Proofs.Ytejncabmppobfaa
/- Contracts: valid gutters and water, both sides. -/
set_option linter.unusedVariables false
set_option linter.unusedSimpArgs false
namespace Go.V
end Go.V
namespace Go.Proofs.Ytejncabmppobfaa
open Go.V
end Go.Proofs.Ytejncabmppobfaa
/- Plain words: what a minute does with the water in a gutter. -/
set_option linter.unusedVariables false
set_option linter.unusedSimpArgs false
namespace Go.V
def idxN (n : Nat) (p : Nat → Bool) : Int := match (List.range n).find? p with | some i => (i : Int) | none => -1
theorem idxN_some {p : Nat → Bool} {n i : Nat} (hi : i < n) (h : p i = true) (hall : ∀ j, j < i → p j = false) : idxN n p = i := by
  unfold idxN; rw [find_some hi h hall]
theorem idxN_none {p : Nat → Bool} {n : Nat} (hall : ∀ j, j < n → p j = false) : idxN n p = -1 := by
  unfold idxN; rw [find_none hall]
def upL (n : Nat) : List Int := (List.range n).map fun i => Int.ofNat i
@[simp] theorem upL_len (n : Nat) : (upL n).length = n := by simp [upL]
end Go.V
/- Contracts: where water flows, a minute, and several, both sides; the laws. -/
set_option linter.unusedVariables false
set_option linter.unusedSimpArgs false
namespace Go.V
/- Words for the walks of this text: their default arguments are tried where they are used. -/
end Go.V
namespace Go.Proofs.Ytejncabmppobfaa
open Go.V
end Go.Proofs.Ytejncabmppobfaa
/- Contracts: a minute, and several, both sides; the laws. -/
set_option linter.unusedVariables false
set_option linter.unusedSimpArgs false
namespace Go.V
end Go.V
namespace Go.Proofs.Ytejncabmppobfaa
open Go.V
end Go.Proofs.Ytejncabmppobfaa
/- Plain words: the first least of a list; a gutter without leaves in a cell. -/
set_option linter.unusedVariables false
set_option linter.unusedSimpArgs false
namespace Go.V
def nx (ls : List Nat) (i : Nat) : Nat := ls.getD i 0
def toI (ls : List Nat) : List Int := ls.map Int.ofNat
@[simp] theorem toI_len (ls : List Nat) : (toI ls).length = ls.length := by simp [toI]
theorem toI_snoc (ls : List Nat) (c : Nat) : toI (ls ++ [c]) = toI ls ++ [(c : Int)] := by simp [toI]
end Go.V
/- Contracts: the cell whose leaves are best taken away, both sides, and the law. -/
set_option linter.unusedVariables false
set_option linter.unusedSimpArgs false
namespace Go.V
/-- An empty row among the arguments is nil, or it is not. -/
theorem Sat.row0 {P : Program} {g : FuncId} {m : Bool} {sz : Nat} {c res : D} (h : ∀ a cap, Sat P g [.v (.slice a 0 cap)] res) : Sat P g [.row m sz c 0] res := by
  refine ⟨(h none 0).1, fun w vs hgl hr => ?_⟩
  simp only [RepL] at hr
  obtain ⟨y, ys, rfl, h1, rfl⟩ := hr
  simp only [Rep] at h1
  obtain ⟨a, cap, xs, rfl, _⟩ := h1
  refine (h a cap).2 w _ hgl ?_
  simp only [RepL]
  exact ⟨_, _, rfl, by simp [Rep, Flat], rfl⟩
end Go.V
namespace Go.Proofs.Ytejncabmppobfaa
open Go.V
end Go.Proofs.Ytejncabmppobfaa
/- Plain words: rain that runs down a roof. -/
set_option linter.unusedVariables false
set_option linter.unusedSimpArgs false
namespace Go.V
/-- Rain. -/
def raiC (w : Nat → Int) : List Value := tab 17 fun i => .int .i16 (w i)
@[simp] theorem raiC_len (w : Nat → Int) : (raiC w).length = 17 := by simp [raiC]
def raiD (w : Nat → Int) : D := .v (.agg ⟨raiC w⟩)
structure RaiIn (w : Nat → Int) : Prop where
  t : ∀ i, -32768 ≤ w i ∧ w i ≤ 32767
theorem raiN {w : Nat → Int} {o i : Nat} (ho : o = i) (h : i < 17) : nth (raiC w) o = some (.int .i16 (w i)) := by subst ho; unfold raiC; rw [nth_tab h]
theorem raiA {w : Nat → Int} {i : Nat} (h : i < 17) : nth (raiC w) (0 + (i : Int).toNat * 1) = some (.int .i16 (w i)) := raiN (by simp) h
theorem raiA' {w : Nat → Int} {i : Nat} (h : i < 17) : nth (raiC w) ((i : Int).toNat * 1) = some (.int .i16 (w i)) := raiN (by simp) h
theorem raiC_congr {f g : Nat → Int} (h : ∀ i, i < 17 → f i = g i) : raiC f = raiC g := by
  unfold raiC; exact tab_congr fun i hi => by rw [h i hi]
theorem rai_set {w : Nat → Int} {c o : Nat} {x : Int} (ho : o = c) : (raiC w).set o (.int .i16 x) = raiC (putW w c x) := by
  subst ho
  unfold raiC putW
  rw [tab_set]
  apply tab_congr
  intro i hi
  by_cases h : i = o
  · subst h; simp
  · simp [h]
theorem raiC_zero : raiC (fun _ => 0) = List.replicate 17 (.int .i16 0) := by
  unfold raiC; rw [tab_def]; rfl
/-- What drips: eight courses of seventeen cells. -/
def dripC (f : Nat → Nat → Int) : List Value := tab 136 fun k => .int .i32 (f (k / 17) (k % 17))
@[simp] theorem dripC_len (f : Nat → Nat → Int) : (dripC f).length = 136 := by simp [dripC]
def dripD (f : Nat → Nat → Int) : D := .v (.agg ⟨dripC f⟩)
theorem dripN {f : Nat → Nat → Int} {o i c : Nat} (ho : o = i * 17 + c) (hi : i < 8) (hc : c < 17) : nth (dripC f) o = some (.int .i32 (f i c)) := by
  subst ho
  unfold dripC
  rw [nth_tab (by omega), show (i * 17 + c) / 17 = i by omega, show (i * 17 + c) % 17 = c by omega]
theorem dripA {f : Nat → Nat → Int} {i c : Nat} (hi : i < 8) (hc : c < 17) : nth (dripC f) (0 + (i : Int).toNat * 17 + (c : Int).toNat * 1) = some (.int .i32 (f i c)) := dripN (by simp) hi hc
def putM (f : Nat → Nat → Int) (i c : Nat) (x : Int) : Nat → Nat → Int := fun i' c' => if i' = i ∧ c' = c then x else f i' c'
theorem drip_set {f : Nat → Nat → Int} {i c o : Nat} {x : Int} (ho : o = i * 17 + c) (hi : i < 8) (hc : c < 17) : (dripC f).set o (.int .i32 x) = dripC (putM f i c x) := by
  subst ho
  unfold dripC putM
  rw [tab_set]
  apply tab_congr
  intro k hk
  by_cases h : k = i * 17 + c
  · subst h
    rw [if_pos rfl, if_pos ⟨by omega, by omega⟩]
  · rw [if_neg h, if_neg (by omega)]
theorem dripC_zero : dripC (fun _ _ => 0) = List.replicate 136 (.int .i32 0) := by
  unfold dripC; rw [tab_def]; simp [List.map_const']
/-- Which tile covers a cell of a course, and of what kind it is. -/
def shN (r : Roof) (i : Nat) : Nat := (i + r.s.toNat) % 2
def tlI (r : Roof) (i c : Nat) : Int := if c < shN r i then -1 else if (((c - shN r i) / 2 : Nat) : Int) < r.w then (((c - shN r i) / 2 : Nat) : Int) else -1
def ovI (r : Roof) (i c : Nat) : Int := if tlI r i c < 0 then 0 else r.t i (tlI r i c).toNat
def drI (r : Roof) (i c : Nat) (n : Int) : Int :=
  if ovI r i c = 1 then (n + 1).tdiv 2 else if ovI r i c = 2 then (n + 2).tdiv 3 else if ovI r i c = 3 then (if 0 < i ∧ ovI r (i - 1) c = 2 then 0 else n) else 0
theorem tlI_range (r : Roof) (i c : Nat) : -1 ≤ tlI r i c ∧ (tlI r i c < 0 ∨ tlI r i c < r.w) := by
  unfold tlI
  split
  · omega
  · split <;> omega
theorem drI_in (r : Roof) (i c : Nat) {n : Int} (h : 0 ≤ n) : 0 ≤ drI r i c n ∧ drI r i c n ≤ n := by
  have h2 : (n + 1).tdiv 2 = (n + 1) / 2 := Int.tdiv_eq_ediv_of_nonneg (by omega)
  have h3 : (n + 2).tdiv 3 = (n + 2) / 3 := Int.tdiv_eq_ediv_of_nonneg (by omega)
  unfold drI
  rw [h2, h3]
  split
  · omega
  · split
    · omega
    · split
      · split <;> omega
      · omega
def wtI (r : Roof) (w : Nat → Int) (c : Nat) : Nat → Int
  | 0 => w c
  | i + 1 => wtI r w c i - drI r i c (wtI r w c i)
theorem wtI_in (r : Roof) {w : Nat → Int} {c : Nat} (h : 0 ≤ w c ∧ w c ≤ 1000) : ∀ i, 0 ≤ wtI r w c i ∧ wtI r w c i ≤ 1000
  | 0 => h
  | i + 1 => by
    have ih := wtI_in r h i
    have := drI_in r i c ih.1
    simp only [wtI]; omega
def onR (r : Roof) (i c : Nat) : Prop := (i : Int) < r.h ∧ (c : Int) < 2 * r.w + 1
instance (r : Roof) (i c : Nat) : Decidable (onR r i c) := by unfold onR; exact inferInstance
/-- Of a roof and rain: what drips, what comes to each course, what comes to the gutter. -/
def dR (r : Roof) (w : Nat → Int) (i c : Nat) : Int := if onR r i c then drI r i c (wtI r w c i) else 0
def cmR (r : Roof) (w : Nat → Int) (i c : Nat) : Int := if onR r i c then wtI r w c i else 0
def gtL (r : Roof) (w : Nat → Int) (n : Nat) : List Int := (List.range n).map fun c => wtI r w c r.h.toNat
@[simp] theorem gtL_len (r : Roof) (w : Nat → Int) (n : Nat) : (gtL r w n).length = n := by simp [gtL]
theorem gtL_next (r : Roof) (w : Nat → Int) (n : Nat) : gtL r w (n + 1) = gtL r w n ++ [wtI r w n r.h.toNat] := by simp [gtL, List.range_succ]
theorem dR_in (r : Roof) {w : Nat → Int} (h : ∀ c, c < 17 → 0 ≤ w c ∧ w c ≤ 1000) {i c : Nat} (hc : c < 17) : 0 ≤ dR r w i c ∧ dR r w i c ≤ 1000 := by
  have h1 := wtI_in r (h c hc) i
  have h2 := drI_in r i c h1.1
  unfold dR; split <;> omega
/-- A table filled column by column. -/
def ptR (f : Nat → Nat → Int) (c i : Nat) : Nat → Nat → Int := fun i' c' => if c' < c ∨ (c' = c ∧ i' < i) then f i' c' else 0
theorem ptR_zero (f : Nat → Nat → Int) : ptR f 0 0 = fun _ _ => 0 := by funext i c; unfold ptR; rw [if_neg (by omega)]
theorem ptR_put {f : Nat → Nat → Int} {c i : Nat} : putM (ptR f c i) i c (f i c) = ptR f c (i + 1) := by
  funext i' c'
  unfold putM ptR
  by_cases h : i' = i ∧ c' = c
  · obtain ⟨rfl, rfl⟩ := h
    rw [if_pos ⟨rfl, rfl⟩, if_pos (by omega)]
  · rw [if_neg h]
    by_cases h2 : c' < c ∨ (c' = c ∧ i' < i)
    · rw [if_pos h2, if_pos (by omega)]
    · rw [if_neg h2, if_neg (by omega)]
theorem ptR_col {f : Nat → Nat → Int} {c n : Nat} (h : ∀ i, n ≤ i → f i c = 0) : ptR f c n = ptR f (c + 1) 0 := by
  funext i' c'
  unfold ptR
  by_cases h1 : c' < c
  · rw [if_pos (by omega), if_pos (by omega)]
  · by_cases h2 : c' = c
    · subst h2
      by_cases h3 : i' < n
      · rw [if_pos (by omega), if_pos (by omega)]
      · rw [if_neg (by omega), if_pos (by omega), h i' (by omega)]
    · rw [if_neg (by omega), if_neg (by omega)]
theorem ptR_all {f : Nat → Nat → Int} {n : Nat} (h : ∀ i c, n ≤ c → f i c = 0) : ptR f n 0 = f := by
  funext i' c'
  unfold ptR
  by_cases h1 : c' < n
  · rw [if_pos (by omega)]
  · rw [if_neg (by omega), h i' c' (by omega)]
/-- The cells of a struct whose head is a table. -/
def dripL (f : Nat → Nat → Int) : List D := (dripC f).map D.v
@[simp] theorem dripL_len (f : Nat → Nat → Int) : (dripL f).length = 136 := by simp [dripL]
theorem flowG {f : Nat → Nat → Int} {x y : D} : nth (dripL f ++ [x, y]) (0 + 136) = some x := by
  rw [nth_eq, List.getElem?_append_right (by simp)]; simp
theorem flowM {f : Nat → Nat → Int} {x y : D} : nth (dripL f ++ [x, y]) (0 + 137) = some y := by
  rw [nth_eq, List.getElem?_append_right (by simp)]; simp
theorem flow_set {f : Nat → Nat → Int} {x y : D} {o i c : Nat} {z : Int} (ho : o = i * 17 + c) (hi : i < 8) (hc : c < 17) : (dripL f ++ [x, y]).set o (.v (.int .i32 z)) = dripL (putM f i c z) ++ [x, y] := by
  rw [List.set_append_left _ _ (by simp; omega)]
  unfold dripL
  rw [← drip_set ho hi hc, List.map_set]
theorem flow_setG {f : Nat → Nat → Int} {x y d : D} : (dripL f ++ [x, y]).set (0 + 136) d = dripL f ++ [d, y] := by
  rw [List.set_append_right _ _ (by simp)]; simp
theorem plain_map : ∀ l : List Value, plainVals (l.map D.v) = some l
  | [] => rfl
  | x :: l => by simp only [List.map_cons, plainVals, plain_map l]
theorem flow_plain {f : Nat → Nat → Int} {x y : D} : plainVals (((dripL f ++ [x, y]).drop 0).take 136) = some (dripC f) := by
  rw [List.drop_zero, List.take_left' (by simp)]
  exact plain_map _
theorem mapO_app {α β : Type} {f : α → Option β} : ∀ {a b : List α} {x y : List β}, mapO f a = some x → mapO f b = some y → mapO f (a ++ b) = some (x ++ y)
  | [], b, x, y, h, h' => by
    simp only [mapO, Option.some.injEq] at h
    subst h
    simpa using h'
  | u :: a, b, x, y, h, h' => by
    simp only [mapO] at h
    split at h
    · rename_i v hv
      split at h
      · rename_i vs hvs
        simp only [Option.some.injEq] at h
        subst h
        simp only [List.cons_append, mapO, hv, mapO_app hvs h']
      · cases h
    · cases h
theorem mapO_vals {f : D → Option D} (hf : ∀ x, f (.v x) = some (.v x)) : ∀ l : List Value, mapO f (l.map D.v) = some (l.map D.v)
  | [] => rfl
  | x :: l => by simp only [List.map_cons, mapO, hf, mapO_vals hf l]
theorem renAgg {rn : Rn} {n : Nat} {ds ds' : List D} (h : mapO (renD rn n) ds = some ds') : renD rn (n + 1) (.agg ds) = some (.agg ds') := by
  rw [renD]; simp only [h]
theorem renFlow {rn : Rn} {f : Nat → Nat → Int} {x y x' y' : D} (hx : renD rn 11 x = some x') (hy : renD rn 11 y = some y') : renD rn depth (.agg (dripL f ++ [x, y])) = some (.agg (dripL f ++ [x', y'])) := by
  have h2 : mapO (renD rn 11) [x, y] = some [x', y'] := by
    rw [mapO, hx]
    dsimp only
    rw [mapO, hy]
    rfl
  exact renAgg (n := 11) (mapO_app (mapO_vals (f := renD rn 11) (fun x => by rw [renD]) _) h2)
theorem deepAgg {out : Bool} {bad : List Id} {m : Id → Option D} {n : Nat} {ds ds' : List D} (h : mapO (deep out bad m n) ds = some ds') : deep out bad m (n + 1) (.agg ds) = some (.agg ds') := by
  rw [deep]; simp only [h]
theorem deepFlow {out : Bool} {bad : List Id} {m : Id → Option D} {f : Nat → Nat → Int} {x y x' y' : D} (hx : deep out bad m 11 x = some x') (hy : deep out bad m 11 y = some y') : deep out bad m depth (.agg (dripL f ++ [x, y])) = some (.agg (dripL f ++ [x', y'])) := by
  have h2 : mapO (deep out bad m 11) [x, y] = some [x', y'] := by
    rw [mapO, hx]
    dsimp only
    rw [mapO, hy]
    rfl
  exact deepAgg (n := 11) (mapO_app (mapO_vals (f := deep out bad m 11) (fun x => by rw [deep]) _) h2)
theorem expFlow {bad : List Id} {m : Id → Option D} {f : Nat → Nat → Int} {x y x' y' : D} (hx : deep true bad m 11 x = some x') (hy : deep true bad m 11 y = some y') : mapO (expD bad m) [.agg (dripL f ++ [x, y])] = some [.agg (dripL f ++ [x', y'])] := by
  have h : expD bad m (.agg (dripL f ++ [x, y])) = some (.agg (dripL f ++ [x', y'])) := deepFlow hx hy
  rw [mapO, h]
  rfl
theorem end138 {x y : List D} (hx : x.length = 138) (hy : y.length = 138) : List.take 138 (List.drop 0 (splice x 0 (List.take 138 (List.drop 0 y)))) = y := by
  have hs : splice x 0 y = y := by
    unfold splice
    rw [List.take_zero, List.nil_append, List.drop_of_length_le (by omega), List.append_nil]
  rw [List.drop_zero, List.drop_zero, take_full (l := y) (by omega), hs, take_full (by omega)]
def P_struct (ty : TypeDesc) : Prop := ∃ fs, ty = .struct fs
end Go.V
namespace Go.Proofs.Ytejncabmppobfaa
open Go.V
theorem mapOkP : MapOk Try.prog 70 := by
  have p0 : ∀ (w : World) (a b : Int), (part 22 ⟨[.int .i8 a, .int .i8 b]⟩ 0).run Try.prog w = .ok (.int .i8 a) w := fun w a b => by
    simp [part, run_isAgg tOk (t := 22) (i := ti22) rfl, TI.isAgg, ti22]
  have p1 : ∀ (w : World) (a b : Int), (part 22 ⟨[.int .i8 a, .int .i8 b]⟩ 1).run Try.prog w = .ok (.int .i8 b) w := fun w a b => by
    simp [part, run_isAgg tOk (t := 22) (i := ti22) rfl, TI.isAgg, ti22]
  have ck : ∀ (w : World) (a : Int), (Instr.checkKey false 9999 22 (.int .i8 a)).run Try.prog w = .ok () w := fun w a => by
    unfold Instr.checkKey; simp [run_under Try.underlying22]
  have eq : ∀ (w : World) (a a' : Int), (Op.equalIn 9999 22 (.int .i8 a) (.int .i8 a')).run Try.prog w = .ok (a == a') w := fun w a a' => by
    unfold Op.equalIn; simp [run_under Try.underlying22]
  refine ⟨_, _, _, Try.underlying70, Try.underlying56, fun w a b => ?_, fun w a b a' b' => ?_⟩
  · unfold Instr.checkKey
    simp only [Sem.run_bind, run_under Try.underlying56, Result.andThen_ok]
    simp [p0, p1, ck]
  · unfold Op.equal Op.maxDepth Op.equalIn
    simp only [Sem.run_bind, run_under Try.underlying56, Result.andThen_ok]
    simp only [Bool.exists_bool]
    by_cases h1 : a = a' <;> by_cases h2 : b = b' <;> simp [p0, p1, eq, h1, h2]
/-- Keys of a map: places. -/
theorem keyOk_place {mt et : TypeId} (hmt : Try.prog.underlying mt = some (.map 56 et)) : KeyOk Try.prog mt true := by
  have p0 : ∀ (w : World) (a b : Int), (part 22 ⟨[.int .i8 a, .int .i8 b]⟩ 0).run Try.prog w = .ok (.int .i8 a) w := fun w a b => by
    simp [part, run_isAgg tOk (t := 22) (i := ti22) rfl, TI.isAgg, ti22]
  have p1 : ∀ (w : World) (a b : Int), (part 22 ⟨[.int .i8 a, .int .i8 b]⟩ 1).run Try.prog w = .ok (.int .i8 b) w := fun w a b => by
    simp [part, run_isAgg tOk (t := 22) (i := ti22) rfl, TI.isAgg, ti22]
  have ck : ∀ (w : World) (b : Bool) (a : Int), (Instr.checkKey b 9999 22 (.int .i8 a)).run Try.prog w = .ok () w := fun w b a => by
    unfold Instr.checkKey; simp [run_under Try.underlying22]
  have eq : ∀ (w : World) (a a' : Int), (Op.equalIn 9999 22 (.int .i8 a) (.int .i8 a')).run Try.prog w = .ok (a == a') w := fun w a a' => by
    unfold Op.equalIn; simp [run_under Try.underlying22]
  have eq2 : ∀ (w : World) (k k' : Int × Int), (Op.equal 56 (keyV true k) (keyV true k')).run Try.prog w = .ok (sameKey (keyV true k) (keyV true k')) w := by
    intro w k k'
    obtain ⟨a, b⟩ := k
    obtain ⟨a', b'⟩ := k'
    simp only [keyV, cond_true, sameKey]
    unfold Op.equal Op.maxDepth Op.equalIn
    simp only [Sem.run_bind, run_under Try.underlying56, Result.andThen_ok]
    by_cases h1 : a = a' <;> by_cases h2 : b = b' <;> simp [p0, p1, eq, h1, h2]
  refine ⟨_, _, hmt, fun w b k => ?_, fun w k es hes => ?_⟩
  · obtain ⟨x, y⟩ := k
    unfold Instr.checkKey
    simp only [Sem.run_bind, run_under Try.underlying56, Result.andThen_ok, keyV, cond_true]
    simp [p0, p1, ck]
  · have ask : ∀ (es : List MapEntry) (i : Nat), (∀ e ∈ es, ∃ k', e.key = keyV true k') → (Instr.findAsking 56 (keyV true k) es i).run Try.prog w = .ok (findE (keyV true k) es i) w := by
      intro es
      induction es with
      | nil => intro i _; simp [Instr.findAsking, findE]
      | cons e es ih =>
        intro i h
        obtain ⟨k', he⟩ := h e (by simp)
        simp only [Instr.findAsking, findE, Sem.run_bind, he, eq2, Result.andThen_ok]
        cases sameKey (keyV true k) (keyV true k')
        · simpa using ih (i + 1) fun e he => h e (by simp [he])
        · simp
    simp only [Instr.findKey, Sem.run_bind, run_under Try.underlying56, Result.andThen_ok]
    have hnow : ∀ (es : List MapEntry) (i : Nat) ty, P_struct ty → (∀ e ∈ es, ∃ k', e.key = keyV true k') → Instr.findNow ty (keyV true k) es i = if es.isEmpty then some none else none := by
      intro es i ty hty h
      cases es with
      | nil => rfl
      | cons e es =>
        obtain ⟨k', he⟩ := h e (by simp)
        simp only [Instr.findNow, he, keyV, cond_true]
        obtain ⟨fs, rfl⟩ := hty
        rfl
    rw [hnow es 0 _ ⟨_, rfl⟩ hes]
    cases es with
    | nil => simp [findE]
    | cons e es => simpa using ask (e :: es) 0 hes
end Go.Proofs.Ytejncabmppobfaa
