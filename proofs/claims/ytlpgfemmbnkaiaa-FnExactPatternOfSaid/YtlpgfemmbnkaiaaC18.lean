/- Contracts: equal grids and roofs; ages some years later, both sides, and the law. -/
import Derived.Test.YtlpgfemmbnkaiaaB3
import Derived.Test.YtlpgfemmbnkaiaaC17
set_option linter.unusedVariables false
set_option linter.unusedSimpArgs false
namespace Go.V
def ageOk0 (y : Int) : Bool := decide (0 ≤ y) && decide (y ≤ 100)
/-- The first i cells of a roof (row by row) with years more. -/
def addP (w i : Nat) (y : Int) (a : Nat → Nat → Int) : Nat → Nat → Int := fun c k => if k < w ∧ c * w + k < i then a c k + y else a c k
theorem addP_zero (w : Nat) (y : Int) (a : Nat → Nat → Int) : addP w 0 y a = a := by funext c k; simp [addP]
theorem div_cell {w c k i : Nat} (hk : k < w) : c * w + k = i ↔ c = i / w ∧ k = i % w := by
  have hw : 0 < w := by omega
  constructor
  · intro h
    subst h
    rw [Nat.mul_comm, Nat.mul_add_div hw, Nat.mul_add_mod, Nat.div_eq_of_lt hk, Nat.mod_eq_of_lt hk]
    exact ⟨rfl, rfl⟩
  · rintro ⟨rfl, rfl⟩
    have := Nat.div_add_mod i w
    rw [Nat.mul_comm] at this
    exact this
theorem addP_next {w i : Nat} (hw : 0 < w) (y : Int) (a : Nat → Nat → Int) : addP w (i + 1) y a = putG (addP w i y a) (i / w) (i % w) (a (i / w) (i % w) + y) := by
  funext c k
  show (if k < w ∧ c * w + k < i + 1 then a c k + y else a c k) = if c = i / w ∧ k = i % w then a (i / w) (i % w) + y else (if k < w ∧ c * w + k < i then a c k + y else a c k)
  by_cases hk : k < w
  · have hd := div_cell (w := w) (c := c) (k := k) (i := i) hk
    by_cases h : c * w + k = i
    · rw [if_pos (hd.1 h), if_pos ⟨hk, by omega⟩]
      obtain ⟨h1, h2⟩ := hd.1 h
      rw [h1, h2]
    · rw [if_neg (fun e => h (hd.2 e))]
      by_cases h2 : c * w + k < i
      · rw [if_pos ⟨hk, by omega⟩, if_pos ⟨hk, h2⟩]
      · rw [if_neg (by omega), if_neg (by omega)]
  · have h2 : ¬ (c = i / w ∧ k = i % w) := by
      rintro ⟨_, rfl⟩
      exact hk (Nat.mod_lt _ hw)
    rw [if_neg h2, if_neg (by omega), if_neg (by omega)]
theorem addP_at {w i : Nat} (hw : 0 < w) (y : Int) (a : Nat → Nat → Int) : addP w i y a (i / w) (i % w) = a (i / w) (i % w) := by
  have := (div_cell (w := w) (c := i / w) (k := i % w) (i := i) (Nat.mod_lt _ hw)).2 ⟨rfl, rfl⟩
  unfold addP
  rw [if_neg (by omega)]
theorem addP_in {w i : Nat} {y : Int} {a : Nat → Nat → Int} (ha : AgesIn a) (hy : 0 ≤ y) (hall : ∀ j, j < i → a (j / w) (j % w) + y ≤ 100) : AgesIn (addP w i y a) := ⟨fun c k => by
  unfold addP
  have := ha.t c k
  split
  · rename_i h
    have h2 := hall _ h.2
    obtain ⟨e1, e2⟩ := (div_cell (w := w) (c := c) (k := k) (i := c * w + k) h.1).1 rfl
    rw [← e1, ← e2] at h2
    omega
  · exact this⟩
def latK (r : Roof) (a : Nat → Nat → Int) (y : Int) : Int := if askC r a (ageOk0 y) = 0 then (if ageP a (oldP r a) + y > 100 then 3 else 0) else askC r a (ageOk0 y)
def latG (r : Roof) (a : Nat → Nat → Int) (y : Int) : Nat → Nat → Int := if latK r a y = 0 then addP r.w.toNat (r.h.toNat * r.w.toNat) y a else fun _ _ => 0
theorem oldP_max {r : Roof} (hb : (1 ≤ r.w ∧ r.w ≤ 8) ∧ (1 ≤ r.h ∧ r.h ≤ 8) ∧ r.s ≤ 1) (a : Nat → Nat → Int) {j : Nat} (hj : j < r.h.toNat * r.w.toNat) : a (j / r.w.toNat) (j % r.w.toNat) ≤ ageP a (oldP r a) := by
  have hl := gridP_len r.w.toNat r.h.toNat
  have := bestL_max a (gridP r.w.toNat r.h.toNat) ((gridP r.w.toNat r.h.toNat).length - 1) j (by omega)
  rw [gridP_nth hj] at this
  exact this
theorem oldP_mem {r : Roof} (hb : (1 ≤ r.w ∧ r.w ≤ 8) ∧ (1 ≤ r.h ∧ r.h ≤ 8) ∧ r.s ≤ 1) (a : Nat → Nat → Int) : ∃ j, j < r.h.toNat * r.w.toNat ∧ oldP r a = (j / r.w.toNat, j % r.w.toNat) := by
  have hl := gridP_len r.w.toNat r.h.toNat
  have hs := gridP_size hb
  obtain ⟨j, h1, h2⟩ := bestL_mem a (gridP r.w.toNat r.h.toNat) ((gridP r.w.toNat r.h.toNat).length - 1)
  refine ⟨j, by omega, ?_⟩
  unfold oldP
  rw [h2, gridP_nth (by omega)]
end Go.V
namespace Go.Proofs.Ytlpgfemmbnkaiaa
open Go.V
theorem eqByteA8_same (f : Nat → Int) : Sat Try.prog 105 [row8D f, row8D f] (.v (.bool true)) := by
  refine sat_of_wp hMix tOk Try.func105 rfl rfl Try.ntmps105 rfl rfl Try.results105 (by kernel_rfl) ?_
  conv => whnf
  repeat (first | (refine And.intro (by first  | exact rfl | decide | omega | (simp [splice]; done) | (constructor <;> omega) | (simp [splice]; omega)) ?_; conv => whnf) | (refine optK_of (gridN (by omega) (by omega)) ?_; conv => whnf) | (refine optK_of (rowN (by omega)) ?_; conv => whnf) | (refine optK_of (roofN (by omega) (by omega)) ?_; conv => whnf) | (refine optK_of (placeA (by omega)) ?_; conv => whnf) | (refine optK_of (placeB (by omega)) ?_; conv => whnf))
  refine loop_rule (α := Nat) (fun i => [(2, .ptr (2, 0, 0) 0), (3, .ptr (3, 0, 0) 0), (5, .v (.int .i64 i))]) (fun i => [((2, 0, 0), row8D f), ((3, 0, 0), row8D f)]) (fun i => i ≤ 8) (fun i => 8 - i) (0) ?g1a (sim_of (rn := [((2, 0, 0), (2, 0, 0)), ((3, 0, 0), (3, 0, 0))]) rfl ?g1b ?g1c) ?g1d
  case g1b => ((repeat' (first | exact trivial | apply And.intro)) <;> (first | rfl | exact succ8 (by omega) | exact succ64 (by omega) | exact CapOk.fn (by assumption) _ _ | exact vintS (by omega) | exact vintS (by rw [w64 (by omega) (by omega)]; omega) | exact vintS (by rw [w8 (by omega) (by omega)]; omega) | exact vslcS (by omega) | exact vslcS (by simp)))
  case g1c => ((repeat' (first | exact trivial | apply And.intro)) <;> (refine ⟨_, _, rfl, rfl, ?_⟩; first | rfl | (rfl)))
  case g1a => first | omega | (dsimp only; omega) | ((repeat' apply And.intro) <;> omega) | (dsimp only; (repeat' apply And.intro) <;> omega) | trivial
  intro i hi
  conv => whnf
  repeat (first | (refine And.intro (by first  | exact rfl | decide | omega | (simp [splice]; done) | (constructor <;> omega) | (simp [splice]; omega)) ?_; conv => whnf) | (refine optK_of (gridN (by omega) (by omega)) ?_; conv => whnf) | (refine optK_of (rowN (by omega)) ?_; conv => whnf) | (refine optK_of (roofN (by omega) (by omega)) ?_; conv => whnf) | (refine optK_of (placeA (by omega)) ?_; conv => whnf) | (refine optK_of (placeB (by omega)) ?_; conv => whnf))
  cases h : decide ((i : Int) < 8)
  · conv => whnf
    repeat (first | (refine And.intro (by first  | exact rfl | decide | omega | (simp [splice]; done) | (constructor <;> omega) | (simp [splice]; omega)) ?_; conv => whnf) | (refine optK_of (gridN (by omega) (by omega)) ?_; conv => whnf) | (refine optK_of (rowN (by omega)) ?_; conv => whnf) | (refine optK_of (roofN (by omega) (by omega)) ?_; conv => whnf) | (refine optK_of (placeA (by omega)) ?_; conv => whnf) | (refine optK_of (placeB (by omega)) ?_; conv => whnf))
    first | refine ⟨rfl, _, rfl, ?_⟩ | refine ⟨_, rfl, ?_⟩
    rfl
  have hi8 : i < 8 := by simp at h; omega
  conv => whnf
  repeat (first | (refine And.intro (by first  | exact rfl | decide | omega | (simp [splice]; done) | (constructor <;> omega) | (simp [splice]; omega)) ?_; conv => whnf) | (refine optK_of (gridN (by omega) (by omega)) ?_; conv => whnf) | (refine optK_of (rowN (by omega)) ?_; conv => whnf) | (refine optK_of (roofN (by omega) (by omega)) ?_; conv => whnf) | (refine optK_of (placeA (by omega)) ?_; conv => whnf) | (refine optK_of (placeB (by omega)) ?_; conv => whnf))
  rw [show (f i != f i) = false by simp]
  conv => whnf
  repeat (first | (refine And.intro (by first  | exact rfl | decide | omega | (simp [splice]; done) | (constructor <;> omega) | (simp [splice]; omega)) ?_; conv => whnf) | (refine optK_of (gridN (by omega) (by omega)) ?_; conv => whnf) | (refine optK_of (rowN (by omega)) ?_; conv => whnf) | (refine optK_of (roofN (by omega) (by omega)) ?_; conv => whnf) | (refine optK_of (placeA (by omega)) ?_; conv => whnf) | (refine optK_of (placeB (by omega)) ?_; conv => whnf))
  refine ⟨i + 1, ?g2a, ?g2b, sim_of (rn := [((2, 0, 0), (2, 0, 0)), ((3, 0, 0), (3, 0, 0))]) rfl ?g2c ?g2d⟩
  case g2a => (dsimp only; omega)
  case g2b => first | omega | (dsimp only; omega) | ((repeat' apply And.intro) <;> omega) | (dsimp only; (repeat' apply And.intro) <;> omega) | trivial
  case g2c => ((repeat' (first | exact trivial | apply And.intro)) <;> (first | rfl | exact succ8 (by omega) | exact succ64 (by omega) | exact CapOk.fn (by assumption) _ _ | exact vintS (by omega) | exact vintS (by rw [w64 (by omega) (by omega)]; omega) | exact vintS (by rw [w8 (by omega) (by omega)]; omega) | exact vslcS (by omega) | exact vslcS (by simp)))
  case g2d => ((repeat' (first | exact trivial | apply And.intro)) <;> (refine ⟨_, _, rfl, rfl, ?_⟩; first | rfl | (rfl)))
theorem eqByteA8A8_same (f : Nat → Nat → Int) : Sat Try.prog 101 [gridD f, gridD f] (.v (.bool true)) := by
  refine sat_of_wp hMix tOk Try.func101 rfl rfl Try.ntmps101 rfl rfl Try.results101 (by kernel_rfl) ?_
  conv => whnf
  repeat (first | (refine And.intro (by first  | exact rfl | decide | omega | (simp [splice]; done) | (constructor <;> omega) | (simp [splice]; omega)) ?_; conv => whnf) | (refine optK_of (gridN (by omega) (by omega)) ?_; conv => whnf) | (refine optK_of (rowN (by omega)) ?_; conv => whnf) | (refine optK_of (roofN (by omega) (by omega)) ?_; conv => whnf) | (refine optK_of (placeA (by omega)) ?_; conv => whnf) | (refine optK_of (placeB (by omega)) ?_; conv => whnf))
  refine loop_rule (α := Nat) (fun i => [(2, .ptr (2, 0, 0) 0), (3, .ptr (3, 0, 0) 0), (5, .v (.int .i64 i))]) (fun i => [((2, 0, 0), gridD f), ((3, 0, 0), gridD f)]) (fun i => i ≤ 8) (fun i => 8 - i) (0) ?g3a (sim_of (rn := [((2, 0, 0), (2, 0, 0)), ((3, 0, 0), (3, 0, 0))]) rfl ?g3b ?g3c) ?g3d
  case g3b => ((repeat' (first | exact trivial | apply And.intro)) <;> (first | rfl | exact succ8 (by omega) | exact succ64 (by omega) | exact CapOk.fn (by assumption) _ _ | exact vintS (by omega) | exact vintS (by rw [w64 (by omega) (by omega)]; omega) | exact vintS (by rw [w8 (by omega) (by omega)]; omega) | exact vslcS (by omega) | exact vslcS (by simp)))
  case g3c => ((repeat' (first | exact trivial | apply And.intro)) <;> (refine ⟨_, _, rfl, rfl, ?_⟩; first | rfl | (rfl)))
  case g3a => first | omega | (dsimp only; omega) | ((repeat' apply And.intro) <;> omega) | (dsimp only; (repeat' apply And.intro) <;> omega) | trivial
  intro i hi
  conv => whnf
  repeat (first | (refine And.intro (by first  | exact rfl | decide | omega | (simp [splice]; done) | (constructor <;> omega) | (simp [splice]; omega)) ?_; conv => whnf) | (refine optK_of (gridN (by omega) (by omega)) ?_; conv => whnf) | (refine optK_of (rowN (by omega)) ?_; conv => whnf) | (refine optK_of (roofN (by omega) (by omega)) ?_; conv => whnf) | (refine optK_of (placeA (by omega)) ?_; conv => whnf) | (refine optK_of (placeB (by omega)) ?_; conv => whnf))
  cases h : decide ((i : Int) < 8)
  · conv => whnf
    repeat (first | (refine And.intro (by first  | exact rfl | decide | omega | (simp [splice]; done) | (constructor <;> omega) | (simp [splice]; omega)) ?_; conv => whnf) | (refine optK_of (gridN (by omega) (by omega)) ?_; conv => whnf) | (refine optK_of (rowN (by omega)) ?_; conv => whnf) | (refine optK_of (roofN (by omega) (by omega)) ?_; conv => whnf) | (refine optK_of (placeA (by omega)) ?_; conv => whnf) | (refine optK_of (placeB (by omega)) ?_; conv => whnf))
    first | refine ⟨rfl, _, rfl, ?_⟩ | refine ⟨_, rfl, ?_⟩
    rfl
  have hi8 : i < 8 := by simp at h; omega
  conv => whnf
  repeat (first | (refine And.intro (by first  | exact rfl | decide | omega | (simp [splice]; done) | (constructor <;> omega) | (simp [splice]; omega)) ?_; conv => whnf) | (refine optK_of (gridN (by omega) (by omega)) ?_; conv => whnf) | (refine optK_of (rowN (by omega)) ?_; conv => whnf) | (refine optK_of (roofN (by omega) (by omega)) ?_; conv => whnf) | (refine optK_of (placeA (by omega)) ?_; conv => whnf) | (refine optK_of (placeB (by omega)) ?_; conv => whnf))
  first | refine ⟨_, _, rfl, Sat.of_eq (eqByteA8_same (f i)) (by repeat (first | rfl | exact vfull (by first | (simp [splice]; done) | (simp [splice]; omega)) | exact rfull (by first | (simp [splice]; done) | (simp [splice]; omega)) | exact vplace (by simp; done) (by omega) | exact vrow (by simp; done) (by omega) | exact vtiles (by simp) | exact vsplice (by simp) (by simp) | refine ceq ?_ ?_ | refine Eq.trans (vsplice (by first | (simp; done) | (simp; omega)) (by first | (simp; done) | (simp; omega))) ?_)), ?_⟩ | refine .inl ⟨_, _, rfl, Sat.of_eq (eqByteA8_same (f i)) (by repeat (first | rfl | exact vfull (by first | (simp [splice]; done) | (simp [splice]; omega)) | exact rfull (by first | (simp [splice]; done) | (simp [splice]; omega)) | exact vplace (by simp; done) (by omega) | exact vrow (by simp; done) (by omega) | exact vtiles (by simp) | exact vsplice (by simp) (by simp) | refine ceq ?_ ?_ | refine Eq.trans (vsplice (by first | (simp; done) | (simp; omega)) (by first | (simp; done) | (simp; omega))) ?_)), ?_⟩
  conv => whnf
  repeat (first | (refine And.intro (by first  | exact rfl | decide | omega | (simp [splice]; done) | (constructor <;> omega) | (simp [splice]; omega)) ?_; conv => whnf) | (refine optK_of (gridN (by omega) (by omega)) ?_; conv => whnf) | (refine optK_of (rowN (by omega)) ?_; conv => whnf) | (refine optK_of (roofN (by omega) (by omega)) ?_; conv => whnf) | (refine optK_of (placeA (by omega)) ?_; conv => whnf) | (refine optK_of (placeB (by omega)) ?_; conv => whnf))
  refine ⟨i + 1, ?g4a, ?g4b, sim_of (rn := [((2, 0, 0), (2, 0, 0)), ((3, 0, 0), (3, 0, 0))]) rfl ?g4c ?g4d⟩
  case g4a => (dsimp only; omega)
  case g4b => first | omega | (dsimp only; omega) | ((repeat' apply And.intro) <;> omega) | (dsimp only; (repeat' apply And.intro) <;> omega) | trivial
  case g4c => ((repeat' (first | exact trivial | apply And.intro)) <;> (first | rfl | exact succ8 (by omega) | exact succ64 (by omega) | exact CapOk.fn (by assumption) _ _ | exact vintS (by omega) | exact vintS (by rw [w64 (by omega) (by omega)]; omega) | exact vintS (by rw [w8 (by omega) (by omega)]; omega) | exact vslcS (by omega) | exact vslcS (by simp)))
  case g4d => ((repeat' (first | exact trivial | apply And.intro)) <;> (refine ⟨_, _, rfl, rfl, ?_⟩; first | rfl | (rfl)))
theorem eqAges_same (f : Nat → Nat → Int) : Sat Try.prog 56 [gridD f, gridD f] (.v (.bool true)) := by
  refine sat_of_wp hMix tOk Try.func56 rfl rfl Try.ntmps56 rfl rfl Try.results56 (by kernel_rfl) ?_
  conv => whnf
  repeat (first | (refine And.intro (by first  | exact rfl | decide | omega | (simp [splice]; done) | (constructor <;> omega) | (simp [splice]; omega)) ?_; conv => whnf) | (refine optK_of (gridN (by omega) (by omega)) ?_; conv => whnf) | (refine optK_of (rowN (by omega)) ?_; conv => whnf) | (refine optK_of (roofN (by omega) (by omega)) ?_; conv => whnf) | (refine optK_of (placeA (by omega)) ?_; conv => whnf) | (refine optK_of (placeB (by omega)) ?_; conv => whnf))
  refine loop_rule (α := Nat) (fun i => [(2, .ptr (2, 0, 0) 0), (3, .ptr (3, 0, 0) 0), (5, .v (.int .i64 i))]) (fun i => [((2, 0, 0), gridD f), ((3, 0, 0), gridD f)]) (fun i => i ≤ 8) (fun i => 8 - i) (0) ?g5a (sim_of (rn := [((2, 0, 0), (2, 0, 0)), ((3, 0, 0), (3, 0, 0))]) rfl ?g5b ?g5c) ?g5d
  case g5b => ((repeat' (first | exact trivial | apply And.intro)) <;> (first | rfl | exact succ8 (by omega) | exact succ64 (by omega) | exact CapOk.fn (by assumption) _ _ | exact vintS (by omega) | exact vintS (by rw [w64 (by omega) (by omega)]; omega) | exact vintS (by rw [w8 (by omega) (by omega)]; omega) | exact vslcS (by omega) | exact vslcS (by simp)))
  case g5c => ((repeat' (first | exact trivial | apply And.intro)) <;> (refine ⟨_, _, rfl, rfl, ?_⟩; first | rfl | (rfl)))
  case g5a => first | omega | (dsimp only; omega) | ((repeat' apply And.intro) <;> omega) | (dsimp only; (repeat' apply And.intro) <;> omega) | trivial
  intro i hi
  conv => whnf
  repeat (first | (refine And.intro (by first  | exact rfl | decide | omega | (simp [splice]; done) | (constructor <;> omega) | (simp [splice]; omega)) ?_; conv => whnf) | (refine optK_of (gridN (by omega) (by omega)) ?_; conv => whnf) | (refine optK_of (rowN (by omega)) ?_; conv => whnf) | (refine optK_of (roofN (by omega) (by omega)) ?_; conv => whnf) | (refine optK_of (placeA (by omega)) ?_; conv => whnf) | (refine optK_of (placeB (by omega)) ?_; conv => whnf))
  cases h : decide ((i : Int) < 8)
  · conv => whnf
    repeat (first | (refine And.intro (by first  | exact rfl | decide | omega | (simp [splice]; done) | (constructor <;> omega) | (simp [splice]; omega)) ?_; conv => whnf) | (refine optK_of (gridN (by omega) (by omega)) ?_; conv => whnf) | (refine optK_of (rowN (by omega)) ?_; conv => whnf) | (refine optK_of (roofN (by omega) (by omega)) ?_; conv => whnf) | (refine optK_of (placeA (by omega)) ?_; conv => whnf) | (refine optK_of (placeB (by omega)) ?_; conv => whnf))
    first | refine ⟨rfl, _, rfl, ?_⟩ | refine ⟨_, rfl, ?_⟩
    rfl
  have hi8 : i < 8 := by simp at h; omega
  conv => whnf
  repeat (first | (refine And.intro (by first  | exact rfl | decide | omega | (simp [splice]; done) | (constructor <;> omega) | (simp [splice]; omega)) ?_; conv => whnf) | (refine optK_of (gridN (by omega) (by omega)) ?_; conv => whnf) | (refine optK_of (rowN (by omega)) ?_; conv => whnf) | (refine optK_of (roofN (by omega) (by omega)) ?_; conv => whnf) | (refine optK_of (placeA (by omega)) ?_; conv => whnf) | (refine optK_of (placeB (by omega)) ?_; conv => whnf))
  first | refine ⟨_, _, rfl, Sat.of_eq (eqByteA8_same (f i)) (by repeat (first | rfl | exact vfull (by first | (simp [splice]; done) | (simp [splice]; omega)) | exact rfull (by first | (simp [splice]; done) | (simp [splice]; omega)) | exact vplace (by simp; done) (by omega) | exact vrow (by simp; done) (by omega) | exact vtiles (by simp) | exact vsplice (by simp) (by simp) | refine ceq ?_ ?_ | refine Eq.trans (vsplice (by first | (simp; done) | (simp; omega)) (by first | (simp; done) | (simp; omega))) ?_)), ?_⟩ | refine .inl ⟨_, _, rfl, Sat.of_eq (eqByteA8_same (f i)) (by repeat (first | rfl | exact vfull (by first | (simp [splice]; done) | (simp [splice]; omega)) | exact rfull (by first | (simp [splice]; done) | (simp [splice]; omega)) | exact vplace (by simp; done) (by omega) | exact vrow (by simp; done) (by omega) | exact vtiles (by simp) | exact vsplice (by simp) (by simp) | refine ceq ?_ ?_ | refine Eq.trans (vsplice (by first | (simp; done) | (simp; omega)) (by first | (simp; done) | (simp; omega))) ?_)), ?_⟩
  conv => whnf
  repeat (first | (refine And.intro (by first  | exact rfl | decide | omega | (simp [splice]; done) | (constructor <;> omega) | (simp [splice]; omega)) ?_; conv => whnf) | (refine optK_of (gridN (by omega) (by omega)) ?_; conv => whnf) | (refine optK_of (rowN (by omega)) ?_; conv => whnf) | (refine optK_of (roofN (by omega) (by omega)) ?_; conv => whnf) | (refine optK_of (placeA (by omega)) ?_; conv => whnf) | (refine optK_of (placeB (by omega)) ?_; conv => whnf))
  refine ⟨i + 1, ?g6a, ?g6b, sim_of (rn := [((2, 0, 0), (2, 0, 0)), ((3, 0, 0), (3, 0, 0))]) rfl ?g6c ?g6d⟩
  case g6a => (dsimp only; omega)
  case g6b => first | omega | (dsimp only; omega) | ((repeat' apply And.intro) <;> omega) | (dsimp only; (repeat' apply And.intro) <;> omega) | trivial
  case g6c => ((repeat' (first | exact trivial | apply And.intro)) <;> (first | rfl | exact succ8 (by omega) | exact succ64 (by omega) | exact CapOk.fn (by assumption) _ _ | exact vintS (by omega) | exact vintS (by rw [w64 (by omega) (by omega)]; omega) | exact vintS (by rw [w8 (by omega) (by omega)]; omega) | exact vslcS (by omega) | exact vslcS (by simp)))
  case g6d => ((repeat' (first | exact trivial | apply And.intro)) <;> (refine ⟨_, _, rfl, rfl, ?_⟩; first | rfl | (rfl)))
theorem eqRoof_same (r : Roof) : Sat Try.prog 53 [roofD r, roofD r] (.v (.bool true)) := by
  refine sat_of_wp hMix tOk Try.func53 rfl rfl Try.ntmps53 rfl rfl Try.results53 (by kernel_rfl) ?_
  conv => whnf
  repeat (first | (refine And.intro (by first  | exact rfl | decide | omega | (simp [splice]; done) | (constructor <;> omega) | (simp [splice]; omega)) ?_; conv => whnf) | (refine optK_of (gridN (by omega) (by omega)) ?_; conv => whnf) | (refine optK_of (rowN (by omega)) ?_; conv => whnf) | (refine optK_of (roofN (by omega) (by omega)) ?_; conv => whnf) | (refine optK_of (placeA (by omega)) ?_; conv => whnf) | (refine optK_of (placeB (by omega)) ?_; conv => whnf))
  rw [show (r.w != r.w) = false by simp]
  conv => whnf
  repeat (first | (refine And.intro (by first  | exact rfl | decide | omega | (simp [splice]; done) | (constructor <;> omega) | (simp [splice]; omega)) ?_; conv => whnf) | (refine optK_of (gridN (by omega) (by omega)) ?_; conv => whnf) | (refine optK_of (rowN (by omega)) ?_; conv => whnf) | (refine optK_of (roofN (by omega) (by omega)) ?_; conv => whnf) | (refine optK_of (placeA (by omega)) ?_; conv => whnf) | (refine optK_of (placeB (by omega)) ?_; conv => whnf))
  rw [show (r.h != r.h) = false by simp]
  conv => whnf
  repeat (first | (refine And.intro (by first  | exact rfl | decide | omega | (simp [splice]; done) | (constructor <;> omega) | (simp [splice]; omega)) ?_; conv => whnf) | (refine optK_of (gridN (by omega) (by omega)) ?_; conv => whnf) | (refine optK_of (rowN (by omega)) ?_; conv => whnf) | (refine optK_of (roofN (by omega) (by omega)) ?_; conv => whnf) | (refine optK_of (placeA (by omega)) ?_; conv => whnf) | (refine optK_of (placeB (by omega)) ?_; conv => whnf))
  rw [show (r.s != r.s) = false by simp]
  conv => whnf
  repeat (first | (refine And.intro (by first  | exact rfl | decide | omega | (simp [splice]; done) | (constructor <;> omega) | (simp [splice]; omega)) ?_; conv => whnf) | (refine optK_of (gridN (by omega) (by omega)) ?_; conv => whnf) | (refine optK_of (rowN (by omega)) ?_; conv => whnf) | (refine optK_of (roofN (by omega) (by omega)) ?_; conv => whnf) | (refine optK_of (placeA (by omega)) ?_; conv => whnf) | (refine optK_of (placeB (by omega)) ?_; conv => whnf))
  first | refine ⟨_, _, rfl, Sat.of_eq (eqByteA8A8_same r.t) (by repeat (first | rfl | exact vfull (by first | (simp [splice]; done) | (simp [splice]; omega)) | exact rfull (by first | (simp [splice]; done) | (simp [splice]; omega)) | exact vplace (by simp; done) (by omega) | exact vrow (by simp; done) (by omega) | exact vtiles (by simp) | exact vsplice (by simp) (by simp) | refine ceq ?_ ?_ | refine Eq.trans (vsplice (by first | (simp; done) | (simp; omega)) (by first | (simp; done) | (simp; omega))) ?_)), ?_⟩ | refine .inl ⟨_, _, rfl, Sat.of_eq (eqByteA8A8_same r.t) (by repeat (first | rfl | exact vfull (by first | (simp [splice]; done) | (simp [splice]; omega)) | exact rfull (by first | (simp [splice]; done) | (simp [splice]; omega)) | exact vplace (by simp; done) (by omega) | exact vrow (by simp; done) (by omega) | exact vtiles (by simp) | exact vsplice (by simp) (by simp) | refine ceq ?_ ?_ | refine Eq.trans (vsplice (by first | (simp; done) | (simp; omega)) (by first | (simp; done) | (simp; omega))) ?_)), ?_⟩
  conv => whnf
  repeat (first | (refine And.intro (by first  | exact rfl | decide | omega | (simp [splice]; done) | (constructor <;> omega) | (simp [splice]; omega)) ?_; conv => whnf) | (refine optK_of (gridN (by omega) (by omega)) ?_; conv => whnf) | (refine optK_of (rowN (by omega)) ?_; conv => whnf) | (refine optK_of (roofN (by omega) (by omega)) ?_; conv => whnf) | (refine optK_of (placeA (by omega)) ?_; conv => whnf) | (refine optK_of (placeB (by omega)) ?_; conv => whnf))
  first | refine ⟨rfl, _, rfl, ?_⟩ | refine ⟨_, rfl, ?_⟩
  rfl
theorem isAge_sat (n : Int) : Sat Try.prog 104 [.v (.int .i64 n)] (.v (.bool (ageOk0 n))) := by
  refine sat_of_wp hMix tOk Try.func104 rfl rfl Try.ntmps104 rfl rfl Try.results104 (by kernel_rfl) ?_
  conv => whnf
  repeat (first | (refine And.intro (by first  | exact rfl | decide | omega | (simp [splice]; done) | (constructor <;> omega) | (simp [splice]; omega)) ?_; conv => whnf) | (refine optK_of (gridN (by omega) (by omega)) ?_; conv => whnf) | (refine optK_of (rowN (by omega)) ?_; conv => whnf) | (refine optK_of (roofN (by omega) (by omega)) ?_; conv => whnf) | (refine optK_of (placeA (by omega)) ?_; conv => whnf) | (refine optK_of (placeB (by omega)) ?_; conv => whnf))
  first | refine ⟨_, _, rfl, Sat.of_eq (within64_sat _ _ _) (by repeat (first | rfl | exact vfull (by first | (simp [splice]; done) | (simp [splice]; omega)) | exact rfull (by first | (simp [splice]; done) | (simp [splice]; omega)) | exact vplace (by simp; done) (by omega) | exact vrow (by simp; done) (by omega) | exact vtiles (by simp) | exact vsplice (by simp) (by simp) | refine ceq ?_ ?_ | refine Eq.trans (vsplice (by first | (simp; done) | (simp; omega)) (by first | (simp; done) | (simp; omega))) ?_)), ?_⟩ | refine .inl ⟨_, _, rfl, Sat.of_eq (within64_sat _ _ _) (by repeat (first | rfl | exact vfull (by first | (simp [splice]; done) | (simp [splice]; omega)) | exact rfull (by first | (simp [splice]; done) | (simp [splice]; omega)) | exact vplace (by simp; done) (by omega) | exact vrow (by simp; done) (by omega) | exact vtiles (by simp) | exact vsplice (by simp) (by simp) | refine ceq ?_ ?_ | refine Eq.trans (vsplice (by first | (simp; done) | (simp; omega)) (by first | (simp; done) | (simp; omega))) ?_)), ?_⟩
  conv => whnf
  repeat (first | (refine And.intro (by first  | exact rfl | decide | omega | (simp [splice]; done) | (constructor <;> omega) | (simp [splice]; omega)) ?_; conv => whnf) | (refine optK_of (gridN (by omega) (by omega)) ?_; conv => whnf) | (refine optK_of (rowN (by omega)) ?_; conv => whnf) | (refine optK_of (roofN (by omega) (by omega)) ?_; conv => whnf) | (refine optK_of (placeA (by omega)) ?_; conv => whnf) | (refine optK_of (placeB (by omega)) ?_; conv => whnf))
  first | refine ⟨rfl, _, rfl, ?_⟩ | refine ⟨_, rfl, ?_⟩
  rfl
theorem specLater_sat (r : Roof) (hr : r.In) (a : Nat → Nat → Int) (ha : AgesIn a) (y : Int) : Sat Try.prog 54 [roofD r, gridD a, .v (.int .i64 y)] (.tup [gridD (latG r a y), .v (.int .i64 (latK r a y))]) := by
  refine sat_of_wp hMix tOk Try.func54 rfl rfl Try.ntmps54 rfl rfl Try.results54 (by kernel_rfl) ?_
  conv => whnf
  repeat (first | (refine And.intro (by first  | exact rfl | decide | omega | (simp [splice]; done) | (constructor <;> omega) | (simp [splice]; omega)) ?_; conv => whnf) | (refine optK_of (gridN (by omega) (by omega)) ?_; conv => whnf) | (refine optK_of (rowN (by omega)) ?_; conv => whnf) | (refine optK_of (roofN (by omega) (by omega)) ?_; conv => whnf) | (refine optK_of (placeA (by omega)) ?_; conv => whnf) | (refine optK_of (placeB (by omega)) ?_; conv => whnf))
  first | refine ⟨_, _, rfl, Sat.of_eq (l00In_sat _ _ _) (by repeat (first | rfl | exact vfull (by first | (simp [splice]; done) | (simp [splice]; omega)) | exact rfull (by first | (simp [splice]; done) | (simp [splice]; omega)) | exact vplace (by simp; done) (by omega) | exact vrow (by simp; done) (by omega) | exact vtiles (by simp) | exact vsplice (by simp) (by simp) | refine ceq ?_ ?_ | refine Eq.trans (vsplice (by first | (simp; done) | (simp; omega)) (by first | (simp; done) | (simp; omega))) ?_)), ?_⟩ | refine .inl ⟨_, _, rfl, Sat.of_eq (l00In_sat _ _ _) (by repeat (first | rfl | exact vfull (by first | (simp [splice]; done) | (simp [splice]; omega)) | exact rfull (by first | (simp [splice]; done) | (simp [splice]; omega)) | exact vplace (by simp; done) (by omega) | exact vrow (by simp; done) (by omega) | exact vtiles (by simp) | exact vsplice (by simp) (by simp) | refine ceq ?_ ?_ | refine Eq.trans (vsplice (by first | (simp; done) | (simp; omega)) (by first | (simp; done) | (simp; omega))) ?_)), ?_⟩
  conv => whnf
  repeat (first | (refine And.intro (by first  | exact rfl | decide | omega | (simp [splice]; done) | (constructor <;> omega) | (simp [splice]; omega)) ?_; conv => whnf) | (refine optK_of (gridN (by omega) (by omega)) ?_; conv => whnf) | (refine optK_of (rowN (by omega)) ?_; conv => whnf) | (refine optK_of (roofN (by omega) (by omega)) ?_; conv => whnf) | (refine optK_of (placeA (by omega)) ?_; conv => whnf) | (refine optK_of (placeB (by omega)) ?_; conv => whnf))
  first | refine ⟨_, _, rfl, Sat.of_eq (l07Asked_sat r hr a ha _) (by repeat (first | rfl | exact vfull (by first | (simp [splice]; done) | (simp [splice]; omega)) | exact rfull (by first | (simp [splice]; done) | (simp [splice]; omega)) | exact vplace (by simp; done) (by omega) | exact vrow (by simp; done) (by omega) | exact vtiles (by simp) | exact vsplice (by simp) (by simp) | refine ceq ?_ ?_ | refine Eq.trans (vsplice (by first | (simp; done) | (simp; omega)) (by first | (simp; done) | (simp; omega))) ?_)), ?_⟩ | refine .inl ⟨_, _, rfl, Sat.of_eq (l07Asked_sat r hr a ha _) (by repeat (first | rfl | exact vfull (by first | (simp [splice]; done) | (simp [splice]; omega)) | exact rfull (by first | (simp [splice]; done) | (simp [splice]; omega)) | exact vplace (by simp; done) (by omega) | exact vrow (by simp; done) (by omega) | exact vtiles (by simp) | exact vsplice (by simp) (by simp) | refine ceq ?_ ?_ | refine Eq.trans (vsplice (by first | (simp; done) | (simp; omega)) (by first | (simp; done) | (simp; omega))) ?_)), ?_⟩
  conv => whnf
  repeat (first | (refine And.intro (by first  | exact rfl | decide | omega | (simp [splice]; done) | (constructor <;> omega) | (simp [splice]; omega)) ?_; conv => whnf) | (refine optK_of (gridN (by omega) (by omega)) ?_; conv => whnf) | (refine optK_of (rowN (by omega)) ?_; conv => whnf) | (refine optK_of (roofN (by omega) (by omega)) ?_; conv => whnf) | (refine optK_of (placeA (by omega)) ?_; conv => whnf) | (refine optK_of (placeB (by omega)) ?_; conv => whnf))
  rw [show (decide (y ≥ 0) && decide (y ≤ 100)) = ageOk0 y from rfl]
  refine bsplitT (fun h1 => ?_) (fun h1 => ?_)
  all_goals (conv => whnf)
  all_goals (repeat (first | (refine And.intro (by first  | exact rfl | decide | omega | (simp [splice]; done) | (constructor <;> omega) | (simp [splice]; omega)) ?_; conv => whnf) | (refine optK_of (gridN (by omega) (by omega)) ?_; conv => whnf) | (refine optK_of (rowN (by omega)) ?_; conv => whnf) | (refine optK_of (roofN (by omega) (by omega)) ?_; conv => whnf) | (refine optK_of (placeA (by omega)) ?_; conv => whnf) | (refine optK_of (placeB (by omega)) ?_; conv => whnf)))
  · first | refine ⟨rfl, _, rfl, ?_⟩ | refine ⟨_, rfl, ?_⟩
    skip
    have h1' : ¬ askC r a (ageOk0 y) = 0 := by simpa using h1
    have h2 : latK r a y = askC r a (ageOk0 y) := by simp only [latK, if_neg h1']
    rw [show latG r a y = fun _ _ => 0 by unfold latG; rw [h2, if_neg h1'], h2]
    unfold gridD; rw [grid_zero]; rfl
  have hz : askC r a (ageOk0 y) = 0 := by simpa using h1
  obtain ⟨hA, hL⟩ := askC_ok hz
  have hb := okA_bounds hA
  have hy : 0 ≤ y ∧ y ≤ 100 := by simpa [ageOk0] using hL
  have hall : Sat Try.prog 102 [.ref false (roofD r) 0] (placesD true (gridP r.w.toNat r.h.toNat)) := by rw [← allP_true]; exact l01All_sat r hr hb
  first | refine ⟨_, _, rfl, Sat.of_eq (hall) (by repeat (first | rfl | exact vfull (by first | (simp [splice]; done) | (simp [splice]; omega)) | exact rfull (by first | (simp [splice]; done) | (simp [splice]; omega)) | exact vplace (by simp; done) (by omega) | exact vrow (by simp; done) (by omega) | exact vtiles (by simp) | exact vsplice (by simp) (by simp) | refine ceq ?_ ?_ | refine Eq.trans (vsplice (by first | (simp; done) | (simp; omega)) (by first | (simp; done) | (simp; omega))) ?_)), ?_⟩ | refine .inl ⟨_, _, rfl, Sat.of_eq (hall) (by repeat (first | rfl | exact vfull (by first | (simp [splice]; done) | (simp [splice]; omega)) | exact rfull (by first | (simp [splice]; done) | (simp [splice]; omega)) | exact vplace (by simp; done) (by omega) | exact vrow (by simp; done) (by omega) | exact vtiles (by simp) | exact vsplice (by simp) (by simp) | refine ceq ?_ ?_ | refine Eq.trans (vsplice (by first | (simp; done) | (simp; omega)) (by first | (simp; done) | (simp; omega))) ?_)), ?_⟩
  conv => whnf
  repeat (first | (refine And.intro (by first  | exact rfl | decide | omega | (simp [splice]; done) | (constructor <;> omega) | (simp [splice]; omega)) ?_; conv => whnf) | (refine optK_of (gridN (by omega) (by omega)) ?_; conv => whnf) | (refine optK_of (rowN (by omega)) ?_; conv => whnf) | (refine optK_of (roofN (by omega) (by omega)) ?_; conv => whnf) | (refine optK_of (placeA (by omega)) ?_; conv => whnf) | (refine optK_of (placeB (by omega)) ?_; conv => whnf))
  generalize hW : r.w.toNat = W at *
  generalize hH : r.h.toNat = H at *
  have hlen : (gridP W H).length = H * W := gridP_len W H
  have hW1 : 0 < W := by omega
  have hHW : H * W ≤ 64 := Nat.mul_le_mul (show H ≤ 8 by omega) (show W ≤ 8 by omega)
  have hin := gridP_in (w := W) (h := H) (by omega) (by omega)
  refine loop_rule (α := Nat) (fun i => [(2, .v (.int .i64 y)), (4, .ptr (4, 0, 0) 0), (6, .ptr (6, 0, 0) 0), (9, .slc true 2 (19, 0, 0) 0 (gridP W H).length), (10, .v (.int .i64 i))]) (fun i => [((4, 0, 0), gridD (addP W i y a)), ((6, 0, 0), .v (.agg ⟨List.replicate 64 (.int .u8 0)⟩)), ((19, 0, 0), .v (.agg ⟨placesC (gridP W H)⟩))]) (fun i => i ≤ H * W ∧ ∀ j, j < i → a (j / W) (j % W) + y ≤ 100) (fun i => H * W - i) (0) ?g7a (sim_of (rn := [((4, 0, 0), (4, 0, 0)), ((6, 0, 0), (6, 0, 0)), ((19, 0, 0), (19, 0, 0))]) rfl ?g7b ?g7c) ?g7d
  case g7b => ((repeat' (first | exact trivial | apply And.intro)) <;> (first | rfl | exact succ8 (by omega) | exact succ64 (by omega) | exact CapOk.fn (by assumption) _ _ | exact vintS (by omega) | exact vintS (by rw [w64 (by omega) (by omega)]; omega) | exact vintS (by rw [w8 (by omega) (by omega)]; omega) | exact vslcS (by omega) | exact vslcS (by simp)))
  case g7c => ((repeat' (first | exact trivial | apply And.intro)) <;> (refine ⟨_, _, rfl, rfl, ?_⟩; first | rfl | (rw [addP_zero]; rfl)))
  case g7a => exact ⟨Nat.zero_le _, by omega⟩
  rintro i ⟨hi, hall⟩
  conv => whnf
  repeat (first | (refine And.intro (by first  | exact rfl | decide | omega | (simp [splice]; done) | (constructor <;> omega) | (simp [splice]; omega)) ?_; conv => whnf) | (refine optK_of (gridN (by omega) (by omega)) ?_; conv => whnf) | (refine optK_of (rowN (by omega)) ?_; conv => whnf) | (refine optK_of (roofN (by omega) (by omega)) ?_; conv => whnf) | (refine optK_of (placeA (by omega)) ?_; conv => whnf) | (refine optK_of (placeB (by omega)) ?_; conv => whnf))
  cases h2 : decide ((i : Int) < ((gridP W H).length : Int))
  · have hi2 : i = H * W := by simp at h2; omega
    conv => whnf
    repeat (first | (refine And.intro (by first  | exact rfl | decide | omega | (simp [splice]; done) | (constructor <;> omega) | (simp [splice]; omega)) ?_; conv => whnf) | (refine optK_of (gridN (by omega) (by omega)) ?_; conv => whnf) | (refine optK_of (rowN (by omega)) ?_; conv => whnf) | (refine optK_of (roofN (by omega) (by omega)) ?_; conv => whnf) | (refine optK_of (placeA (by omega)) ?_; conv => whnf) | (refine optK_of (placeB (by omega)) ?_; conv => whnf))
    first | refine ⟨rfl, _, rfl, ?_⟩ | refine ⟨_, rfl, ?_⟩
    skip
    have hno : ¬ ageP a (oldP r a) + y > 100 := by
      obtain ⟨j, h3, h4⟩ := oldP_mem hb a
      rw [hW, hH] at h3
      have := hall j (by omega)
      rw [h4]
      rw [hW]
      show ¬ a (j / W) (j % W) + y > 100
      omega
    have hk : latK r a y = 0 := by simp only [latK, hz, if_true, if_neg hno]
    have hg : latG r a y = addP W (H * W) y a := by simp only [latG, hk, if_true, hW, hH]
    rw [hk, hg, hi2]
    show D.tup [D.v (.agg ⟨grid (addP W (H * W) y a)⟩), _] = D.tup [_, _]
    refine congrArg (fun l => D.tup [.v (.agg ⟨l⟩), .v (.int .i64 0)]) (Eq.symm ?_)
    exact copied (n := 64) (xs := List.replicate 64 (.int .u8 0)) (ys := grid (addP W (H * W) y a)) (by simp) (by simp)
  have hi2 : i < H * W := by simp at h2; omega
  have hq : nthP (gridP W H) i = (i / W, i % W) := gridP_nth hi2
  have hqi := hin i (by omega)
  conv => whnf
  repeat (first | (refine And.intro (by first  | exact rfl | decide | omega | (simp [splice]; done) | (constructor <;> omega) | (simp [splice]; omega)) ?_; conv => whnf) | (refine optK_of (gridN (by omega) (by omega)) ?_; conv => whnf) | (refine optK_of (rowN (by omega)) ?_; conv => whnf) | (refine optK_of (roofN (by omega) (by omega)) ?_; conv => whnf) | (refine optK_of (placeA (by omega)) ?_; conv => whnf) | (refine optK_of (placeB (by omega)) ?_; conv => whnf))
  first | refine ⟨_, _, rfl, Sat.of_eq (l07Age_sat _ (addP_in ha hy.1 hall) (nthP (gridP W H) i).1 (nthP (gridP W H) i).2 hqi.1 hqi.2) (by repeat (first | rfl | exact vfull (by first | (simp [splice]; done) | (simp [splice]; omega)) | exact rfull (by first | (simp [splice]; done) | (simp [splice]; omega)) | exact vplace (by simp; done) (by omega) | exact vrow (by simp; done) (by omega) | exact vtiles (by simp) | exact vsplice (by simp) (by simp) | refine ceq ?_ ?_ | refine Eq.trans (vsplice (by first | (simp; done) | (simp; omega)) (by first | (simp; done) | (simp; omega))) ?_)), ?_⟩ | refine .inl ⟨_, _, rfl, Sat.of_eq (l07Age_sat _ (addP_in ha hy.1 hall) (nthP (gridP W H) i).1 (nthP (gridP W H) i).2 hqi.1 hqi.2) (by repeat (first | rfl | exact vfull (by first | (simp [splice]; done) | (simp [splice]; omega)) | exact rfull (by first | (simp [splice]; done) | (simp [splice]; omega)) | exact vplace (by simp; done) (by omega) | exact vrow (by simp; done) (by omega) | exact vtiles (by simp) | exact vsplice (by simp) (by simp) | refine ceq ?_ ?_ | refine Eq.trans (vsplice (by first | (simp; done) | (simp; omega)) (by first | (simp; done) | (simp; omega))) ?_)), ?_⟩
  conv => whnf
  repeat (first | (refine And.intro (by first  | exact rfl | decide | omega | (simp [splice]; done) | (constructor <;> omega) | (simp [splice]; omega)) ?_; conv => whnf) | (refine optK_of (gridN (by omega) (by omega)) ?_; conv => whnf) | (refine optK_of (rowN (by omega)) ?_; conv => whnf) | (refine optK_of (roofN (by omega) (by omega)) ?_; conv => whnf) | (refine optK_of (placeA (by omega)) ?_; conv => whnf) | (refine optK_of (placeB (by omega)) ?_; conv => whnf))
  have e1 : addP W i y a (nthP (gridP W H) i).1 (nthP (gridP W H) i).2 = a (i / W) (i % W) := by rw [hq]; exact addP_at hW1 y a
  have hai := ha.t (i / W) (i % W)
  rw [e1, show IntKind.i64.wrap (a (i / W) (i % W) + y) = a (i / W) (i % W) + y from w64 (by omega) (by omega)]
  refine bsplitT (fun h3 => ?_) (fun h3 => ?_)
  all_goals (conv => whnf)
  all_goals (repeat (first | (refine And.intro (by first  | exact rfl | decide | omega | (simp [splice]; done) | (constructor <;> omega) | (simp [splice]; omega)) ?_; conv => whnf) | (refine optK_of (gridN (by omega) (by omega)) ?_; conv => whnf) | (refine optK_of (rowN (by omega)) ?_; conv => whnf) | (refine optK_of (roofN (by omega) (by omega)) ?_; conv => whnf) | (refine optK_of (placeA (by omega)) ?_; conv => whnf) | (refine optK_of (placeB (by omega)) ?_; conv => whnf)))
  · first | refine ⟨rfl, _, rfl, ?_⟩ | refine ⟨_, rfl, ?_⟩
    skip
    have h3' : a (i / W) (i % W) + y > 100 := by simpa using h3
    have hyes : ageP a (oldP r a) + y > 100 := by
      have := oldP_max hb a (j := i) (by rw [hW, hH]; exact hi2)
      rw [hW] at this
      omega
    have hk : latK r a y = 3 := by simp only [latK, hz, if_true, if_pos hyes]
    rw [hk, show latG r a y = fun _ _ => 0 by unfold latG; rw [hk]; rfl]
    unfold gridD; rw [grid_zero]; rfl
  have h3' : a (i / W) (i % W) + y ≤ 100 := by simpa using h3
  have setA : (grid (addP W i y a)).set (0 + ((nthP (gridP W H) i).1 : Int).toNat * 8 + ((nthP (gridP W H) i).2 : Int).toNat * 1) (.int .u8 (IntKind.u8.wrap (a (i / W) (i % W) + y))) = grid (addP W (i + 1) y a) := by
    rw [hq] at hqi ⊢
    rw [addP_next hW1, wu8 (by omega) (by omega)]
    exact grid_set (by simp only [Int.toNat_natCast]; omega) hqi.1 hqi.2
  have hall' : ∀ j, j < i + 1 → a (j / W) (j % W) + y ≤ 100 := fun j hj => by
    by_cases e : j = i
    · subst e; exact h3'
    · exact hall j (by omega)
  refine ⟨i + 1, ?g8a, ?g8b, sim_of (rn := [((4, 0, 0), (4, 0, 0)), ((6, 0, 0), (6, 0, 0)), ((19, 0, 0), (19, 0, 0))]) rfl ?g8c ?g8d⟩
  case g8a => (dsimp only; omega)
  case g8b => exact ⟨by omega, hall'⟩
  case g8c => ((repeat' (first | exact trivial | apply And.intro)) <;> (first | rfl | exact succ8 (by omega) | exact succ64 (by omega) | exact CapOk.fn (by assumption) _ _ | exact vintS (by omega) | exact vintS (by rw [w64 (by omega) (by omega)]; omega) | exact vintS (by rw [w8 (by omega) (by omega)]; omega) | exact vslcS (by omega) | exact vslcS (by simp)))
  case g8d => ((repeat' (first | exact trivial | apply And.intro)) <;> (refine ⟨_, _, rfl, rfl, ?_⟩; first | rfl | (exact cset setA)))

theorem later_sat (r : Roof) (hr : r.In) (a : Nat → Nat → Int) (ha : AgesIn a) (y : Int) (hy0 : -9223372036854775808 ≤ y ∧ y ≤ 9223372036854775807) : Sat Try.prog 55 [roofD r, gridD a, .v (.int .i64 y)] (.tup [gridD (latG r a y), .v (.int .i64 (latK r a y))]) := by
  refine sat_of_wp hMix tOk Try.func55 rfl rfl Try.ntmps55 rfl rfl Try.results55 (by kernel_rfl) ?_
  conv => whnf
  repeat (first | (refine And.intro (by first  | exact rfl | decide | omega | (simp [splice]; done) | (constructor <;> omega) | (simp [splice]; omega)) ?_; conv => whnf) | (refine optK_of (gridN (by omega) (by omega)) ?_; conv => whnf) | (refine optK_of (rowN (by omega)) ?_; conv => whnf) | (refine optK_of (roofN (by omega) (by omega)) ?_; conv => whnf) | (refine optK_of (placeA (by omega)) ?_; conv => whnf) | (refine optK_of (placeB (by omega)) ?_; conv => whnf))
  first | refine ⟨_, _, rfl, Sat.of_eq (isAge_sat _) (by repeat (first | rfl | exact vfull (by first | (simp [splice]; done) | (simp [splice]; omega)) | exact rfull (by first | (simp [splice]; done) | (simp [splice]; omega)) | exact vplace (by simp; done) (by omega) | exact vrow (by simp; done) (by omega) | exact vtiles (by simp) | exact vsplice (by simp) (by simp) | refine ceq ?_ ?_ | refine Eq.trans (vsplice (by first | (simp; done) | (simp; omega)) (by first | (simp; done) | (simp; omega))) ?_)), ?_⟩ | refine .inl ⟨_, _, rfl, Sat.of_eq (isAge_sat _) (by repeat (first | rfl | exact vfull (by first | (simp [splice]; done) | (simp [splice]; omega)) | exact rfull (by first | (simp [splice]; done) | (simp [splice]; omega)) | exact vplace (by simp; done) (by omega) | exact vrow (by simp; done) (by omega) | exact vtiles (by simp) | exact vsplice (by simp) (by simp) | refine ceq ?_ ?_ | refine Eq.trans (vsplice (by first | (simp; done) | (simp; omega)) (by first | (simp; done) | (simp; omega))) ?_)), ?_⟩
  conv => whnf
  repeat (first | (refine And.intro (by first  | exact rfl | decide | omega | (simp [splice]; done) | (constructor <;> omega) | (simp [splice]; omega)) ?_; conv => whnf) | (refine optK_of (gridN (by omega) (by omega)) ?_; conv => whnf) | (refine optK_of (rowN (by omega)) ?_; conv => whnf) | (refine optK_of (roofN (by omega) (by omega)) ?_; conv => whnf) | (refine optK_of (placeA (by omega)) ?_; conv => whnf) | (refine optK_of (placeB (by omega)) ?_; conv => whnf))
  first | refine ⟨_, _, rfl, Sat.of_eq (agesCode_sat r hr a ha _) (by repeat (first | rfl | exact vfull (by first | (simp [splice]; done) | (simp [splice]; omega)) | exact rfull (by first | (simp [splice]; done) | (simp [splice]; omega)) | exact vplace (by simp; done) (by omega) | exact vrow (by simp; done) (by omega) | exact vtiles (by simp) | exact vsplice (by simp) (by simp) | refine ceq ?_ ?_ | refine Eq.trans (vsplice (by first | (simp; done) | (simp; omega)) (by first | (simp; done) | (simp; omega))) ?_)), ?_⟩ | refine .inl ⟨_, _, rfl, Sat.of_eq (agesCode_sat r hr a ha _) (by repeat (first | rfl | exact vfull (by first | (simp [splice]; done) | (simp [splice]; omega)) | exact rfull (by first | (simp [splice]; done) | (simp [splice]; omega)) | exact vplace (by simp; done) (by omega) | exact vrow (by simp; done) (by omega) | exact vtiles (by simp) | exact vsplice (by simp) (by simp) | refine ceq ?_ ?_ | refine Eq.trans (vsplice (by first | (simp; done) | (simp; omega)) (by first | (simp; done) | (simp; omega))) ?_)), ?_⟩
  conv => whnf
  repeat (first | (refine And.intro (by first  | exact rfl | decide | omega | (simp [splice]; done) | (constructor <;> omega) | (simp [splice]; omega)) ?_; conv => whnf) | (refine optK_of (gridN (by omega) (by omega)) ?_; conv => whnf) | (refine optK_of (rowN (by omega)) ?_; conv => whnf) | (refine optK_of (roofN (by omega) (by omega)) ?_; conv => whnf) | (refine optK_of (placeA (by omega)) ?_; conv => whnf) | (refine optK_of (placeB (by omega)) ?_; conv => whnf))
  refine bsplitT (fun h1 => ?_) (fun h1 => ?_)
  all_goals (conv => whnf)
  all_goals (repeat (first | (refine And.intro (by first  | exact rfl | decide | omega | (simp [splice]; done) | (constructor <;> omega) | (simp [splice]; omega)) ?_; conv => whnf) | (refine optK_of (gridN (by omega) (by omega)) ?_; conv => whnf) | (refine optK_of (rowN (by omega)) ?_; conv => whnf) | (refine optK_of (roofN (by omega) (by omega)) ?_; conv => whnf) | (refine optK_of (placeA (by omega)) ?_; conv => whnf) | (refine optK_of (placeB (by omega)) ?_; conv => whnf)))
  · first | refine ⟨rfl, _, rfl, ?_⟩ | refine ⟨_, rfl, ?_⟩
    skip
    have h1' : ¬ askC r a (ageOk0 y) = 0 := by simpa using h1
    have h2 : latK r a y = askC r a (ageOk0 y) := by simp only [latK, if_neg h1']
    rw [show latG r a y = fun _ _ => 0 by unfold latG; rw [h2, if_neg h1'], h2]
    unfold gridD; rw [grid_zero]; rfl
  have hz : askC r a (ageOk0 y) = 0 := by simpa using h1
  obtain ⟨hA, hL⟩ := askC_ok hz
  have hb := okA_bounds hA
  have hy : 0 ≤ y ∧ y ≤ 100 := by simpa [ageOk0] using hL
  have hp := oldP_in hb a
  first | refine ⟨_, _, rfl, Sat.of_eq (oldest_sat r hr hb a ha) (by repeat (first | rfl | exact vfull (by first | (simp [splice]; done) | (simp [splice]; omega)) | exact rfull (by first | (simp [splice]; done) | (simp [splice]; omega)) | exact vplace (by simp; done) (by omega) | exact vrow (by simp; done) (by omega) | exact vtiles (by simp) | exact vsplice (by simp) (by simp) | refine ceq ?_ ?_ | refine Eq.trans (vsplice (by first | (simp; done) | (simp; omega)) (by first | (simp; done) | (simp; omega))) ?_)), ?_⟩ | refine .inl ⟨_, _, rfl, Sat.of_eq (oldest_sat r hr hb a ha) (by repeat (first | rfl | exact vfull (by first | (simp [splice]; done) | (simp [splice]; omega)) | exact rfull (by first | (simp [splice]; done) | (simp [splice]; omega)) | exact vplace (by simp; done) (by omega) | exact vrow (by simp; done) (by omega) | exact vtiles (by simp) | exact vsplice (by simp) (by simp) | refine ceq ?_ ?_ | refine Eq.trans (vsplice (by first | (simp; done) | (simp; omega)) (by first | (simp; done) | (simp; omega))) ?_)), ?_⟩
  conv => whnf
  repeat (first | (refine And.intro (by first  | exact rfl | decide | omega | (simp [splice]; done) | (constructor <;> omega) | (simp [splice]; omega)) ?_; conv => whnf) | (refine optK_of (gridN (by omega) (by omega)) ?_; conv => whnf) | (refine optK_of (rowN (by omega)) ?_; conv => whnf) | (refine optK_of (roofN (by omega) (by omega)) ?_; conv => whnf) | (refine optK_of (placeA (by omega)) ?_; conv => whnf) | (refine optK_of (placeB (by omega)) ?_; conv => whnf))
  first | refine ⟨_, _, rfl, Sat.of_eq (at_sat a ha _ _ hp.1 hp.2) (by repeat (first | rfl | exact vfull (by first | (simp [splice]; done) | (simp [splice]; omega)) | exact rfull (by first | (simp [splice]; done) | (simp [splice]; omega)) | exact vplace (by simp; done) (by omega) | exact vrow (by simp; done) (by omega) | exact vtiles (by simp) | exact vsplice (by simp) (by simp) | refine ceq ?_ ?_ | refine Eq.trans (vsplice (by first | (simp; done) | (simp; omega)) (by first | (simp; done) | (simp; omega))) ?_)), ?_⟩ | refine .inl ⟨_, _, rfl, Sat.of_eq (at_sat a ha _ _ hp.1 hp.2) (by repeat (first | rfl | exact vfull (by first | (simp [splice]; done) | (simp [splice]; omega)) | exact rfull (by first | (simp [splice]; done) | (simp [splice]; omega)) | exact vplace (by simp; done) (by omega) | exact vrow (by simp; done) (by omega) | exact vtiles (by simp) | exact vsplice (by simp) (by simp) | refine ceq ?_ ?_ | refine Eq.trans (vsplice (by first | (simp; done) | (simp; omega)) (by first | (simp; done) | (simp; omega))) ?_)), ?_⟩
  conv => whnf
  repeat (first | (refine And.intro (by first  | exact rfl | decide | omega | (simp [splice]; done) | (constructor <;> omega) | (simp [splice]; omega)) ?_; conv => whnf) | (refine optK_of (gridN (by omega) (by omega)) ?_; conv => whnf) | (refine optK_of (rowN (by omega)) ?_; conv => whnf) | (refine optK_of (roofN (by omega) (by omega)) ?_; conv => whnf) | (refine optK_of (placeA (by omega)) ?_; conv => whnf) | (refine optK_of (placeB (by omega)) ?_; conv => whnf))
  have hap := ha.t (oldP r a).1 (oldP r a).2
  have e3 : IntKind.i64.wrap (a (oldP r a).1 (oldP r a).2 + y) = ageP a (oldP r a) + y := w64 (by omega) (by omega)
  rw [e3]
  refine bsplitT (fun h3 => ?_) (fun h3 => ?_)
  all_goals (conv => whnf)
  all_goals (repeat (first | (refine And.intro (by first  | exact rfl | decide | omega | (simp [splice]; done) | (constructor <;> omega) | (simp [splice]; omega)) ?_; conv => whnf) | (refine optK_of (gridN (by omega) (by omega)) ?_; conv => whnf) | (refine optK_of (rowN (by omega)) ?_; conv => whnf) | (refine optK_of (roofN (by omega) (by omega)) ?_; conv => whnf) | (refine optK_of (placeA (by omega)) ?_; conv => whnf) | (refine optK_of (placeB (by omega)) ?_; conv => whnf)))
  · first | refine ⟨rfl, _, rfl, ?_⟩ | refine ⟨_, rfl, ?_⟩
    skip
    have h3' : ageP a (oldP r a) + y > 100 := by simpa using h3
    have hk : latK r a y = 3 := by simp only [latK, hz, if_true, if_pos h3']
    rw [hk, show latG r a y = fun _ _ => 0 by unfold latG; rw [hk]; rfl]
    unfold gridD; rw [grid_zero]; rfl
  have h3' : ¬ ageP a (oldP r a) + y > 100 := by simpa using h3
  have hk : latK r a y = 0 := by simp only [latK, hz, if_true, if_neg h3']
  have hg : latG r a y = addP r.w.toNat (r.h.toNat * r.w.toNat) y a := by simp only [latG, hk, if_true]
  have hall : ∀ j, j < r.h.toNat * r.w.toNat → a (j / r.w.toNat) (j % r.w.toNat) + y ≤ 100 := fun j hj => by
    have := oldP_max hb a hj
    omega
  refine loop_rule (α := Nat) (fun c => [(2, .v (.int .i64 y)), (3, .ptr (3, 0, 0) 0), (4, .ptr (4, 0, 0) 0), (6, .ptr (6, 0, 0) 0), (30, .v (.int .i8 r.h)), (31, .v (.int .i8 c))]) (fun c => [((3, 0, 0), roofD r), ((4, 0, 0), gridD (addP r.w.toNat (c * r.w.toNat) y a)), ((6, 0, 0), .v (.agg ⟨List.replicate 64 (.int .u8 0)⟩))]) (fun c => c ≤ r.h.toNat) (fun c => 8 - c) (0) ?g9a (sim_of (rn := [((3, 0, 0), (3, 0, 0)), ((4, 0, 0), (4, 0, 0)), ((6, 0, 0), (6, 0, 0))]) rfl ?g9b ?g9c) ?g9d
  case g9b => ((repeat' (first | exact trivial | apply And.intro)) <;> (first | rfl | exact succ8 (by omega) | exact succ64 (by omega) | exact CapOk.fn (by assumption) _ _ | exact vintS (by omega) | exact vintS (by rw [w64 (by omega) (by omega)]; omega) | exact vintS (by rw [w8 (by omega) (by omega)]; omega) | exact vslcS (by omega) | exact vslcS (by simp)))
  case g9c => ((repeat' (first | exact trivial | apply And.intro)) <;> (refine ⟨_, _, rfl, rfl, ?_⟩; first | rfl | (rw [Nat.zero_mul, addP_zero]; rfl)))
  case g9a => first | omega | (dsimp only; omega) | ((repeat' apply And.intro) <;> omega) | (dsimp only; (repeat' apply And.intro) <;> omega) | trivial
  intro c hc
  conv => whnf
  repeat (first | (refine And.intro (by first  | exact rfl | decide | omega | (simp [splice]; done) | (constructor <;> omega) | (simp [splice]; omega)) ?_; conv => whnf) | (refine optK_of (gridN (by omega) (by omega)) ?_; conv => whnf) | (refine optK_of (rowN (by omega)) ?_; conv => whnf) | (refine optK_of (roofN (by omega) (by omega)) ?_; conv => whnf) | (refine optK_of (placeA (by omega)) ?_; conv => whnf) | (refine optK_of (placeB (by omega)) ?_; conv => whnf))
  cases h4 : decide ((c : Int) < r.h)
  · have h8 : c = r.h.toNat := by simp at h4; omega
    conv => whnf
    repeat (first | (refine And.intro (by first  | exact rfl | decide | omega | (simp [splice]; done) | (constructor <;> omega) | (simp [splice]; omega)) ?_; conv => whnf) | (refine optK_of (gridN (by omega) (by omega)) ?_; conv => whnf) | (refine optK_of (rowN (by omega)) ?_; conv => whnf) | (refine optK_of (roofN (by omega) (by omega)) ?_; conv => whnf) | (refine optK_of (placeA (by omega)) ?_; conv => whnf) | (refine optK_of (placeB (by omega)) ?_; conv => whnf))
    first | refine ⟨rfl, _, rfl, ?_⟩ | refine ⟨_, rfl, ?_⟩
    skip
    rw [hk, hg, h8]
    refine congrArg (fun l => D.tup [.v (.agg ⟨l⟩), .v (.int .i64 0)]) (Eq.symm ?_)
    exact copied (n := 64) (xs := List.replicate 64 (.int .u8 0)) (ys := grid (addP r.w.toNat (r.h.toNat * r.w.toNat) y a)) (by simp) (by simp)
  have hch : (c : Int) < r.h := by simpa using h4
  conv => whnf
  repeat (first | (refine And.intro (by first  | exact rfl | decide | omega | (simp [splice]; done) | (constructor <;> omega) | (simp [splice]; omega)) ?_; conv => whnf) | (refine optK_of (gridN (by omega) (by omega)) ?_; conv => whnf) | (refine optK_of (rowN (by omega)) ?_; conv => whnf) | (refine optK_of (roofN (by omega) (by omega)) ?_; conv => whnf) | (refine optK_of (placeA (by omega)) ?_; conv => whnf) | (refine optK_of (placeB (by omega)) ?_; conv => whnf))
  refine loop_rule (α := Nat) (fun k => [(2, .v (.int .i64 y)), (3, .ptr (3, 0, 0) 0), (4, .ptr (4, 0, 0) 0), (6, .ptr (6, 0, 0) 0), (9, .v (.int .i8 c)), (30, .v (.int .i8 r.h)), (31, .v (.int .i8 c)), (35, .v (.int .i8 r.w)), (36, .v (.int .i8 k))]) (fun k => [((3, 0, 0), roofD r), ((4, 0, 0), gridD (addP r.w.toNat (c * r.w.toNat + k) y a)), ((6, 0, 0), .v (.agg ⟨List.replicate 64 (.int .u8 0)⟩))]) (fun k => k ≤ r.w.toNat) (fun k => 8 - k) (0) ?g10a (sim_of (rn := [((3, 0, 0), (3, 0, 0)), ((4, 0, 0), (4, 0, 0)), ((6, 0, 0), (6, 0, 0))]) rfl ?g10b ?g10c) ?g10d
  case g10b => ((repeat' (first | exact trivial | apply And.intro)) <;> (first | rfl | exact succ8 (by omega) | exact succ64 (by omega) | exact CapOk.fn (by assumption) _ _ | exact vintS (by omega) | exact vintS (by rw [w64 (by omega) (by omega)]; omega) | exact vintS (by rw [w8 (by omega) (by omega)]; omega) | exact vslcS (by omega) | exact vslcS (by simp)))
  case g10c => ((repeat' (first | exact trivial | apply And.intro)) <;> (refine ⟨_, _, rfl, rfl, ?_⟩; first | rfl | (rfl)))
  case g10a => first | omega | (dsimp only; omega) | ((repeat' apply And.intro) <;> omega) | (dsimp only; (repeat' apply And.intro) <;> omega) | trivial
  intro k hk'
  conv => whnf
  repeat (first | (refine And.intro (by first  | exact rfl | decide | omega | (simp [splice]; done) | (constructor <;> omega) | (simp [splice]; omega)) ?_; conv => whnf) | (refine optK_of (gridN (by omega) (by omega)) ?_; conv => whnf) | (refine optK_of (rowN (by omega)) ?_; conv => whnf) | (refine optK_of (roofN (by omega) (by omega)) ?_; conv => whnf) | (refine optK_of (placeA (by omega)) ?_; conv => whnf) | (refine optK_of (placeB (by omega)) ?_; conv => whnf))
  cases h5 : decide ((k : Int) < r.w)
  · have hkw : k = r.w.toNat := by simp at h5; omega
    conv => whnf
    repeat (first | (refine And.intro (by first  | exact rfl | decide | omega | (simp [splice]; done) | (constructor <;> omega) | (simp [splice]; omega)) ?_; conv => whnf) | (refine optK_of (gridN (by omega) (by omega)) ?_; conv => whnf) | (refine optK_of (rowN (by omega)) ?_; conv => whnf) | (refine optK_of (roofN (by omega) (by omega)) ?_; conv => whnf) | (refine optK_of (placeA (by omega)) ?_; conv => whnf) | (refine optK_of (placeB (by omega)) ?_; conv => whnf))
    refine ⟨c + 1, ?g11a, ?g11b, sim_of (rn := [((3, 0, 0), (3, 0, 0)), ((4, 0, 0), (4, 0, 0)), ((6, 0, 0), (6, 0, 0))]) rfl ?g11c ?g11d⟩
    case g11a => (dsimp only; omega)
    case g11b => first | omega | (dsimp only; omega) | ((repeat' apply And.intro) <;> omega) | (dsimp only; (repeat' apply And.intro) <;> omega) | trivial
    case g11c => ((repeat' (first | exact trivial | apply And.intro)) <;> (first | rfl | exact succ8 (by omega) | exact succ64 (by omega) | exact CapOk.fn (by assumption) _ _ | exact vintS (by omega) | exact vintS (by rw [w64 (by omega) (by omega)]; omega) | exact vintS (by rw [w8 (by omega) (by omega)]; omega) | exact vslcS (by omega) | exact vslcS (by simp)))
    case g11d => ((repeat' (first | exact trivial | apply And.intro)) <;> (refine ⟨_, _, rfl, rfl, ?_⟩; first | rfl | (rw [hkw, Nat.succ_mul]; rfl)))
  have hkw : (k : Int) < r.w := by simpa using h5
  have hd := (div_cell (w := r.w.toNat) (c := c) (k := k) (i := c * r.w.toNat + k) (by omega)).1 rfl
  have hlt : c * r.w.toNat + k < r.h.toNat * r.w.toNat := by
    have : (c + 1) * r.w.toNat ≤ r.h.toNat * r.w.toNat := Nat.mul_le_mul_right _ (by omega)
    rw [Nat.succ_mul] at this
    omega
  have h6 := hall _ hlt
  have h7 := addP_at (w := r.w.toNat) (i := c * r.w.toNat + k) (by omega) y a
  rw [← hd.1, ← hd.2] at h6 h7
  have hac := ha.t c k
  conv => whnf
  repeat (first | (refine And.intro (by first  | exact rfl | decide | omega | (simp [splice]; done) | (constructor <;> omega) | (simp [splice]; omega)) ?_; conv => whnf) | (refine optK_of (gridN (by omega) (by omega)) ?_; conv => whnf) | (refine optK_of (rowN (by omega)) ?_; conv => whnf) | (refine optK_of (roofN (by omega) (by omega)) ?_; conv => whnf) | (refine optK_of (placeA (by omega)) ?_; conv => whnf) | (refine optK_of (placeB (by omega)) ?_; conv => whnf))
  have setA : (grid (addP r.w.toNat (c * r.w.toNat + k) y a)).set (0 + (c : Int).toNat * 8 + (k : Int).toNat * 1) (.int .u8 (IntKind.u8.wrap (addP r.w.toNat (c * r.w.toNat + k) y a c k + IntKind.u8.wrap y))) = grid (addP r.w.toNat (c * r.w.toNat + (k + 1)) y a) := by
    rw [h7, show IntKind.u8.wrap y = y from wu8 (by omega) (by omega), wu8 (by omega) (by omega), ← Nat.add_assoc, addP_next (by omega), ← hd.1, ← hd.2]
    exact grid_set (by simp) (by omega) (by omega)
  refine ⟨k + 1, ?g12a, ?g12b, sim_of (rn := [((3, 0, 0), (3, 0, 0)), ((4, 0, 0), (4, 0, 0)), ((6, 0, 0), (6, 0, 0))]) rfl ?g12c ?g12d⟩
  case g12a => (dsimp only; omega)
  case g12b => first | omega | (dsimp only; omega) | ((repeat' apply And.intro) <;> omega) | (dsimp only; (repeat' apply And.intro) <;> omega) | trivial
  case g12c => ((repeat' (first | exact trivial | apply And.intro)) <;> (first | rfl | exact succ8 (by omega) | exact succ64 (by omega) | exact CapOk.fn (by assumption) _ _ | exact vintS (by omega) | exact vintS (by rw [w64 (by omega) (by omega)]; omega) | exact vintS (by rw [w8 (by omega) (by omega)]; omega) | exact vslcS (by omega) | exact vslcS (by simp)))
  case g12d => ((repeat' (first | exact trivial | apply And.intro)) <;> (refine ⟨_, _, rfl, rfl, ?_⟩; first | rfl | (exact cset setA)))

theorem fnExactLater_sat (r : Roof) (hr : r.In) (a : Nat → Nat → Int) (ha : AgesIn a) (y : Int) (hy : -9223372036854775808 ≤ y ∧ y ≤ 9223372036854775807) : Sat Try.prog 16 [roofD r, gridD a, .v (.int .i64 y)] (.v (.bool true)) := by
  have s1 := specLater_sat r hr a ha y
  have s2 := later_sat r hr a ha y hy
  generalize latG r a y = g at s1 s2
  generalize latK r a y = x at s1 s2
  refine sat_of_wp hMix tOk Try.func16 rfl rfl Try.ntmps16 rfl rfl Try.results16 (by kernel_rfl) ?_
  conv => whnf
  repeat (first | (refine And.intro (by first  | exact rfl | decide | omega | (simp [splice]; done) | (constructor <;> omega) | (simp [splice]; omega)) ?_; conv => whnf) | (refine optK_of (gridN (by omega) (by omega)) ?_; conv => whnf) | (refine optK_of (rowN (by omega)) ?_; conv => whnf) | (refine optK_of (roofN (by omega) (by omega)) ?_; conv => whnf) | (refine optK_of (placeA (by omega)) ?_; conv => whnf) | (refine optK_of (placeB (by omega)) ?_; conv => whnf))
  first | refine ⟨_, _, rfl, Sat.of_eq (toRoof_sat r) (by repeat (first | rfl | exact vfull (by first | (simp [splice]; done) | (simp [splice]; omega)) | exact rfull (by first | (simp [splice]; done) | (simp [splice]; omega)) | exact vplace (by simp; done) (by omega) | exact vrow (by simp; done) (by omega) | exact vtiles (by simp) | exact vsplice (by simp) (by simp) | refine ceq ?_ ?_ | refine Eq.trans (vsplice (by first | (simp; done) | (simp; omega)) (by first | (simp; done) | (simp; omega))) ?_)), ?_⟩ | refine .inl ⟨_, _, rfl, Sat.of_eq (toRoof_sat r) (by repeat (first | rfl | exact vfull (by first | (simp [splice]; done) | (simp [splice]; omega)) | exact rfull (by first | (simp [splice]; done) | (simp [splice]; omega)) | exact vplace (by simp; done) (by omega) | exact vrow (by simp; done) (by omega) | exact vtiles (by simp) | exact vsplice (by simp) (by simp) | refine ceq ?_ ?_ | refine Eq.trans (vsplice (by first | (simp; done) | (simp; omega)) (by first | (simp; done) | (simp; omega))) ?_)), ?_⟩
  conv => whnf
  repeat (first | (refine And.intro (by first  | exact rfl | decide | omega | (simp [splice]; done) | (constructor <;> omega) | (simp [splice]; omega)) ?_; conv => whnf) | (refine optK_of (gridN (by omega) (by omega)) ?_; conv => whnf) | (refine optK_of (rowN (by omega)) ?_; conv => whnf) | (refine optK_of (roofN (by omega) (by omega)) ?_; conv => whnf) | (refine optK_of (placeA (by omega)) ?_; conv => whnf) | (refine optK_of (placeB (by omega)) ?_; conv => whnf))
  first | refine ⟨_, _, rfl, Sat.of_eq (toAges_sat a) (by repeat (first | rfl | exact vfull (by first | (simp [splice]; done) | (simp [splice]; omega)) | exact rfull (by first | (simp [splice]; done) | (simp [splice]; omega)) | exact vplace (by simp; done) (by omega) | exact vrow (by simp; done) (by omega) | exact vtiles (by simp) | exact vsplice (by simp) (by simp) | refine ceq ?_ ?_ | refine Eq.trans (vsplice (by first | (simp; done) | (simp; omega)) (by first | (simp; done) | (simp; omega))) ?_)), ?_⟩ | refine .inl ⟨_, _, rfl, Sat.of_eq (toAges_sat a) (by repeat (first | rfl | exact vfull (by first | (simp [splice]; done) | (simp [splice]; omega)) | exact rfull (by first | (simp [splice]; done) | (simp [splice]; omega)) | exact vplace (by simp; done) (by omega) | exact vrow (by simp; done) (by omega) | exact vtiles (by simp) | exact vsplice (by simp) (by simp) | refine ceq ?_ ?_ | refine Eq.trans (vsplice (by first | (simp; done) | (simp; omega)) (by first | (simp; done) | (simp; omega))) ?_)), ?_⟩
  conv => whnf
  repeat (first | (refine And.intro (by first  | exact rfl | decide | omega | (simp [splice]; done) | (constructor <;> omega) | (simp [splice]; omega)) ?_; conv => whnf) | (refine optK_of (gridN (by omega) (by omega)) ?_; conv => whnf) | (refine optK_of (rowN (by omega)) ?_; conv => whnf) | (refine optK_of (roofN (by omega) (by omega)) ?_; conv => whnf) | (refine optK_of (placeA (by omega)) ?_; conv => whnf) | (refine optK_of (placeB (by omega)) ?_; conv => whnf))
  first | refine ⟨_, _, rfl, Sat.of_eq (s1) (by repeat (first | rfl | exact vfull (by first | (simp [splice]; done) | (simp [splice]; omega)) | exact rfull (by first | (simp [splice]; done) | (simp [splice]; omega)) | exact vplace (by simp; done) (by omega) | exact vrow (by simp; done) (by omega) | exact vtiles (by simp) | exact vsplice (by simp) (by simp) | refine ceq ?_ ?_ | refine Eq.trans (vsplice (by first | (simp; done) | (simp; omega)) (by first | (simp; done) | (simp; omega))) ?_)), ?_⟩ | refine .inl ⟨_, _, rfl, Sat.of_eq (s1) (by repeat (first | rfl | exact vfull (by first | (simp [splice]; done) | (simp [splice]; omega)) | exact rfull (by first | (simp [splice]; done) | (simp [splice]; omega)) | exact vplace (by simp; done) (by omega) | exact vrow (by simp; done) (by omega) | exact vtiles (by simp) | exact vsplice (by simp) (by simp) | refine ceq ?_ ?_ | refine Eq.trans (vsplice (by first | (simp; done) | (simp; omega)) (by first | (simp; done) | (simp; omega))) ?_)), ?_⟩
  conv => whnf
  repeat (first | (refine And.intro (by first  | exact rfl | decide | omega | (simp [splice]; done) | (constructor <;> omega) | (simp [splice]; omega)) ?_; conv => whnf) | (refine optK_of (gridN (by omega) (by omega)) ?_; conv => whnf) | (refine optK_of (rowN (by omega)) ?_; conv => whnf) | (refine optK_of (roofN (by omega) (by omega)) ?_; conv => whnf) | (refine optK_of (placeA (by omega)) ?_; conv => whnf) | (refine optK_of (placeB (by omega)) ?_; conv => whnf))
  first | refine ⟨_, _, rfl, Sat.of_eq (toRoof_sat r) (by repeat (first | rfl | exact vfull (by first | (simp [splice]; done) | (simp [splice]; omega)) | exact rfull (by first | (simp [splice]; done) | (simp [splice]; omega)) | exact vplace (by simp; done) (by omega) | exact vrow (by simp; done) (by omega) | exact vtiles (by simp) | exact vsplice (by simp) (by simp) | refine ceq ?_ ?_ | refine Eq.trans (vsplice (by first | (simp; done) | (simp; omega)) (by first | (simp; done) | (simp; omega))) ?_)), ?_⟩ | refine .inl ⟨_, _, rfl, Sat.of_eq (toRoof_sat r) (by repeat (first | rfl | exact vfull (by first | (simp [splice]; done) | (simp [splice]; omega)) | exact rfull (by first | (simp [splice]; done) | (simp [splice]; omega)) | exact vplace (by simp; done) (by omega) | exact vrow (by simp; done) (by omega) | exact vtiles (by simp) | exact vsplice (by simp) (by simp) | refine ceq ?_ ?_ | refine Eq.trans (vsplice (by first | (simp; done) | (simp; omega)) (by first | (simp; done) | (simp; omega))) ?_)), ?_⟩
  conv => whnf
  repeat (first | (refine And.intro (by first  | exact rfl | decide | omega | (simp [splice]; done) | (constructor <;> omega) | (simp [splice]; omega)) ?_; conv => whnf) | (refine optK_of (gridN (by omega) (by omega)) ?_; conv => whnf) | (refine optK_of (rowN (by omega)) ?_; conv => whnf) | (refine optK_of (roofN (by omega) (by omega)) ?_; conv => whnf) | (refine optK_of (placeA (by omega)) ?_; conv => whnf) | (refine optK_of (placeB (by omega)) ?_; conv => whnf))
  first | refine ⟨_, _, rfl, Sat.of_eq (toAges_sat a) (by repeat (first | rfl | exact vfull (by first | (simp [splice]; done) | (simp [splice]; omega)) | exact rfull (by first | (simp [splice]; done) | (simp [splice]; omega)) | exact vplace (by simp; done) (by omega) | exact vrow (by simp; done) (by omega) | exact vtiles (by simp) | exact vsplice (by simp) (by simp) | refine ceq ?_ ?_ | refine Eq.trans (vsplice (by first | (simp; done) | (simp; omega)) (by first | (simp; done) | (simp; omega))) ?_)), ?_⟩ | refine .inl ⟨_, _, rfl, Sat.of_eq (toAges_sat a) (by repeat (first | rfl | exact vfull (by first | (simp [splice]; done) | (simp [splice]; omega)) | exact rfull (by first | (simp [splice]; done) | (simp [splice]; omega)) | exact vplace (by simp; done) (by omega) | exact vrow (by simp; done) (by omega) | exact vtiles (by simp) | exact vsplice (by simp) (by simp) | refine ceq ?_ ?_ | refine Eq.trans (vsplice (by first | (simp; done) | (simp; omega)) (by first | (simp; done) | (simp; omega))) ?_)), ?_⟩
  conv => whnf
  repeat (first | (refine And.intro (by first  | exact rfl | decide | omega | (simp [splice]; done) | (constructor <;> omega) | (simp [splice]; omega)) ?_; conv => whnf) | (refine optK_of (gridN (by omega) (by omega)) ?_; conv => whnf) | (refine optK_of (rowN (by omega)) ?_; conv => whnf) | (refine optK_of (roofN (by omega) (by omega)) ?_; conv => whnf) | (refine optK_of (placeA (by omega)) ?_; conv => whnf) | (refine optK_of (placeB (by omega)) ?_; conv => whnf))
  first | refine ⟨_, _, rfl, Sat.of_eq (s2) (by repeat (first | rfl | exact vfull (by first | (simp [splice]; done) | (simp [splice]; omega)) | exact rfull (by first | (simp [splice]; done) | (simp [splice]; omega)) | exact vplace (by simp; done) (by omega) | exact vrow (by simp; done) (by omega) | exact vtiles (by simp) | exact vsplice (by simp) (by simp) | refine ceq ?_ ?_ | refine Eq.trans (vsplice (by first | (simp; done) | (simp; omega)) (by first | (simp; done) | (simp; omega))) ?_)), ?_⟩ | refine .inl ⟨_, _, rfl, Sat.of_eq (s2) (by repeat (first | rfl | exact vfull (by first | (simp [splice]; done) | (simp [splice]; omega)) | exact rfull (by first | (simp [splice]; done) | (simp [splice]; omega)) | exact vplace (by simp; done) (by omega) | exact vrow (by simp; done) (by omega) | exact vtiles (by simp) | exact vsplice (by simp) (by simp) | refine ceq ?_ ?_ | refine Eq.trans (vsplice (by first | (simp; done) | (simp; omega)) (by first | (simp; done) | (simp; omega))) ?_)), ?_⟩
  conv => whnf
  repeat (first | (refine And.intro (by first  | exact rfl | decide | omega | (simp [splice]; done) | (constructor <;> omega) | (simp [splice]; omega)) ?_; conv => whnf) | (refine optK_of (gridN (by omega) (by omega)) ?_; conv => whnf) | (refine optK_of (rowN (by omega)) ?_; conv => whnf) | (refine optK_of (roofN (by omega) (by omega)) ?_; conv => whnf) | (refine optK_of (placeA (by omega)) ?_; conv => whnf) | (refine optK_of (placeB (by omega)) ?_; conv => whnf))
  first | refine ⟨_, _, rfl, Sat.of_eq (eqAges_same g) (by repeat (first | rfl | exact vfull (by first | (simp [splice]; done) | (simp [splice]; omega)) | exact rfull (by first | (simp [splice]; done) | (simp [splice]; omega)) | exact vplace (by simp; done) (by omega) | exact vrow (by simp; done) (by omega) | exact vtiles (by simp) | exact vsplice (by simp) (by simp) | refine ceq ?_ ?_ | refine Eq.trans (vsplice (by first | (simp; done) | (simp; omega)) (by first | (simp; done) | (simp; omega))) ?_)), ?_⟩ | refine .inl ⟨_, _, rfl, Sat.of_eq (eqAges_same g) (by repeat (first | rfl | exact vfull (by first | (simp [splice]; done) | (simp [splice]; omega)) | exact rfull (by first | (simp [splice]; done) | (simp [splice]; omega)) | exact vplace (by simp; done) (by omega) | exact vrow (by simp; done) (by omega) | exact vtiles (by simp) | exact vsplice (by simp) (by simp) | refine ceq ?_ ?_ | refine Eq.trans (vsplice (by first | (simp; done) | (simp; omega)) (by first | (simp; done) | (simp; omega))) ?_)), ?_⟩
  conv => whnf
  repeat (first | (refine And.intro (by first  | exact rfl | decide | omega | (simp [splice]; done) | (constructor <;> omega) | (simp [splice]; omega)) ?_; conv => whnf) | (refine optK_of (gridN (by omega) (by omega)) ?_; conv => whnf) | (refine optK_of (rowN (by omega)) ?_; conv => whnf) | (refine optK_of (roofN (by omega) (by omega)) ?_; conv => whnf) | (refine optK_of (placeA (by omega)) ?_; conv => whnf) | (refine optK_of (placeB (by omega)) ?_; conv => whnf))
  rw [show (x != x) = false by simp]
  conv => whnf
  repeat (first | (refine And.intro (by first  | exact rfl | decide | omega | (simp [splice]; done) | (constructor <;> omega) | (simp [splice]; omega)) ?_; conv => whnf) | (refine optK_of (gridN (by omega) (by omega)) ?_; conv => whnf) | (refine optK_of (rowN (by omega)) ?_; conv => whnf) | (refine optK_of (roofN (by omega) (by omega)) ?_; conv => whnf) | (refine optK_of (placeA (by omega)) ?_; conv => whnf) | (refine optK_of (placeB (by omega)) ?_; conv => whnf))
  first | refine ⟨rfl, _, rfl, ?_⟩ | refine ⟨_, rfl, ?_⟩
  rfl
end Go.Proofs.Ytlpgfemmbnkaiaa
