/- Contracts: lists of whole numbers; visits; the law on visits. -/
import Derived.Test.YtndlknhakdadjaaC21
import Derived.Test.YtndlknhakdadjaaB4
set_option linter.unusedVariables false
set_option linter.unusedSimpArgs false
namespace Go.V
/-- The visits from a year on. -/
def visL (life years : Int) : Nat → Int → List Int
  | 0, _ => []
  | f + 1, v => if v < years then v :: visL life years f (v + life) else []
theorem visL_step {life years v : Int} {f : Nat} (h : v < years) : visL life years (f + 1) v = v :: visL life years f (v + life) := by simp only [visL, if_pos h]
theorem visL_len (life years : Int) : ∀ (f : Nat) (v : Int), (visL life years f v).length ≤ f
  | 0, _ => by simp [visL]
  | f + 1, v => by
    simp only [visL]
    split
    · simpa using visL_len life years f (v + life)
    · simp
def visK (r : Roof) (a : Nat → Nat → Int) (life years : Int) : Int := if brkK r a life years = 0 then (if ageP a (oldP r a) > life then 6 else 0) else brkK r a life years
def visX (r : Roof) (a : Nat → Nat → Int) (life years : Int) : List Int := if visK r a life years = 0 then visL life years 400 (life - ageP a (oldP r a)) else []
theorem okA_ages {r : Roof} {a : Nat → Nat → Int} (h : okA r a = true) {c k : Nat} (hc : c < 8) (hk : k < 8) : a c k ≤ 100 := by
  simp only [okA, Bool.and_eq_true] at h
  have := all8_iff.1 h.2 c hc k hk
  simp only [ageOk, Bool.and_eq_true, decide_eq_true_eq] at this
  exact this.1
theorem brk_facts {r : Roof} {a : Nat → Nat → Int} {life years : Int} (ha : AgesIn a) (h : brkK r a life years = 0) :
    ((1 ≤ r.w ∧ r.w ≤ 8) ∧ (1 ≤ r.h ∧ r.h ≤ 8) ∧ r.s ≤ 1) ∧ (0 ≤ ageP a (oldP r a) ∧ ageP a (oldP r a) ≤ 100) ∧ (1 ≤ life ∧ life ≤ 100) ∧ (0 ≤ years ∧ years ≤ 200) := by
  obtain ⟨hA, hL⟩ := askC_ok h
  simp only [lifeOk, yearsOk, Bool.and_eq_true, decide_eq_true_eq] at hL
  have hb := okA_bounds hA
  have hp := oldP_in hb a
  have := ha.t (oldP r a).1 (oldP r a).2
  exact ⟨hb, ⟨this.1, okA_ages hA hp.1 hp.2⟩, hL.1, hL.2⟩
end Go.V
namespace Go.Proofs.Ytndlknhakdadjaa
open Go.V
theorem toInt64S_sat (xs : List Int) (hl : xs.length ≤ 1048576) (m : Bool) : Sat Try.prog 28 [intsD m xs] (intsD true xs) := by
  refine sat_of_wp hMix tOk Try.func28 rfl rfl Try.ntmps28 rfl rfl Try.results28 (by kernel_rfl) ?_
  conv => whnf
  repeat (first | (refine And.intro (by first  | exact rfl | decide | omega | (simp [splice]; done) | (constructor <;> omega) | (simp [splice]; omega)) ?_; conv => whnf) | (refine optK_of (intA (by omega)) ?_; conv => whnf) | (refine optK_of (intA' (by omega)) ?_; conv => whnf) | (refine optK_of (markIA (by omega)) ?_; conv => whnf) | (refine optK_of (gridN (by omega) (by omega)) ?_; conv => whnf) | (refine optK_of (rowN (by omega)) ?_; conv => whnf) | (refine optK_of (roofN (by omega) (by omega)) ?_; conv => whnf) | (refine optK_of (placeA (by omega)) ?_; conv => whnf) | (refine optK_of (placeB (by omega)) ?_; conv => whnf) | (refine optK_of (placeA' (by omega)) ?_; conv => whnf) | (refine optK_of (placeB' (by omega)) ?_; conv => whnf))
  refine loop_rule (α := Nat) (fun i => [(0, intsD m xs), (3, .slc true 1 (7, 0, 0) 0 xs.length), (4, .v (.int .i64 i))]) (fun i => [((7, 0, 0), .v (.agg ⟨intsC (cpI xs i)⟩))]) (fun i => i ≤ xs.length) (fun i => xs.length - i) (0) ?_ (sim_of (rn := [((7, 0, 0), (7, 0, 0))]) rfl ?_ ?_) ?_
  · first | omega | (dsimp only; omega) | ((repeat' apply And.intro) <;> omega) | (dsimp only; (repeat' apply And.intro) <;> omega) | trivial
  · ((repeat' (first | exact trivial | apply And.intro)) <;> (first | rfl | exact succ8 (by omega) | exact succ64 (by omega) | exact CapOk.fn (by assumption) _ _ | exact vintS (by omega) | exact vintS (by rw [w64 (by omega) (by omega)]; omega) | exact vintS (by rw [w8 (by omega) (by omega)]; omega) | exact vslcS (by omega) | exact vslcS (by simp)))
  · ((repeat' (first | exact trivial | apply And.intro)) <;> (refine ⟨_, _, rfl, rfl, ?_⟩; first | rfl | (exact cset (cpI_zero xs))))
  intro i hi
  conv => whnf
  repeat (first | (refine And.intro (by first  | exact rfl | decide | omega | (simp [splice]; done) | (constructor <;> omega) | (simp [splice]; omega)) ?_; conv => whnf) | (refine optK_of (intA (by omega)) ?_; conv => whnf) | (refine optK_of (intA' (by omega)) ?_; conv => whnf) | (refine optK_of (markIA (by omega)) ?_; conv => whnf) | (refine optK_of (gridN (by omega) (by omega)) ?_; conv => whnf) | (refine optK_of (rowN (by omega)) ?_; conv => whnf) | (refine optK_of (roofN (by omega) (by omega)) ?_; conv => whnf) | (refine optK_of (placeA (by omega)) ?_; conv => whnf) | (refine optK_of (placeB (by omega)) ?_; conv => whnf) | (refine optK_of (placeA' (by omega)) ?_; conv => whnf) | (refine optK_of (placeB' (by omega)) ?_; conv => whnf))
  cases h : decide ((i : Int) < (xs.length : Int))
  · have hin : i = xs.length := by simp at h; omega
    subst hin
    rw [cpI_all]
    conv => whnf
    repeat (first | (refine And.intro (by first  | exact rfl | decide | omega | (simp [splice]; done) | (constructor <;> omega) | (simp [splice]; omega)) ?_; conv => whnf) | (refine optK_of (intA (by omega)) ?_; conv => whnf) | (refine optK_of (intA' (by omega)) ?_; conv => whnf) | (refine optK_of (markIA (by omega)) ?_; conv => whnf) | (refine optK_of (gridN (by omega) (by omega)) ?_; conv => whnf) | (refine optK_of (rowN (by omega)) ?_; conv => whnf) | (refine optK_of (roofN (by omega) (by omega)) ?_; conv => whnf) | (refine optK_of (placeA (by omega)) ?_; conv => whnf) | (refine optK_of (placeB (by omega)) ?_; conv => whnf) | (refine optK_of (placeA' (by omega)) ?_; conv => whnf) | (refine optK_of (placeB' (by omega)) ?_; conv => whnf))
    first | refine ⟨rfl, _, rfl, ?_⟩ | refine ⟨_, rfl, ?_⟩
    rfl
  have hin : i < xs.length := by simpa using h
  have hcl := cpI_len (xs := xs) (i := i) hi
  conv => whnf
  repeat (first | (refine And.intro (by first  | exact rfl | decide | omega | (simp [splice]; done) | (constructor <;> omega) | (simp [splice]; omega)) ?_; conv => whnf) | (refine optK_of (intA (by omega)) ?_; conv => whnf) | (refine optK_of (intA' (by omega)) ?_; conv => whnf) | (refine optK_of (markIA (by omega)) ?_; conv => whnf) | (refine optK_of (gridN (by omega) (by omega)) ?_; conv => whnf) | (refine optK_of (rowN (by omega)) ?_; conv => whnf) | (refine optK_of (roofN (by omega) (by omega)) ?_; conv => whnf) | (refine optK_of (placeA (by omega)) ?_; conv => whnf) | (refine optK_of (placeB (by omega)) ?_; conv => whnf) | (refine optK_of (placeA' (by omega)) ?_; conv => whnf) | (refine optK_of (placeB' (by omega)) ?_; conv => whnf))
  have setA : (intsC (cpI xs i)).set (0 + (i : Int).toNat * 1) (.int .i64 (ix xs i)) = intsC (cpI xs (i + 1)) := by
    rw [show 0 + (i : Int).toNat * 1 = i by omega, intsC_set, cpI_next hin]
  refine ⟨i + 1, ?_, ?_, sim_of (rn := [((7, 0, 0), (7, 0, 0))]) rfl ?_ ?_⟩
  · (dsimp only; omega)
  · first | omega | (dsimp only; omega) | ((repeat' apply And.intro) <;> omega) | (dsimp only; (repeat' apply And.intro) <;> omega) | trivial
  · ((repeat' (first | exact trivial | apply And.intro)) <;> (first | rfl | exact succ8 (by omega) | exact succ64 (by omega) | exact CapOk.fn (by assumption) _ _ | exact vintS (by omega) | exact vintS (by rw [w64 (by omega) (by omega)]; omega) | exact vintS (by rw [w8 (by omega) (by omega)]; omega) | exact vslcS (by omega) | exact vslcS (by simp)))
  · ((repeat' (first | exact trivial | apply And.intro)) <;> (refine ⟨_, _, rfl, rfl, ?_⟩; first | rfl | (exact cset setA)))
theorem eqInt64S_same (xs : List Int) (hl : xs.length ≤ 1048576) (m m' : Bool) : Sat Try.prog 21 [intsD m xs, intsD m' xs] (.v (.bool true)) := by
  refine sat_of_wp hMix tOk Try.func21 rfl rfl Try.ntmps21 rfl rfl Try.results21 (by kernel_rfl) ?_
  conv => whnf
  repeat (first | (refine And.intro (by first  | exact rfl | decide | omega | (simp [splice]; done) | (constructor <;> omega) | (simp [splice]; omega)) ?_; conv => whnf) | (refine optK_of (intA (by omega)) ?_; conv => whnf) | (refine optK_of (intA' (by omega)) ?_; conv => whnf) | (refine optK_of (markIA (by omega)) ?_; conv => whnf) | (refine optK_of (gridN (by omega) (by omega)) ?_; conv => whnf) | (refine optK_of (rowN (by omega)) ?_; conv => whnf) | (refine optK_of (roofN (by omega) (by omega)) ?_; conv => whnf) | (refine optK_of (placeA (by omega)) ?_; conv => whnf) | (refine optK_of (placeB (by omega)) ?_; conv => whnf) | (refine optK_of (placeA' (by omega)) ?_; conv => whnf) | (refine optK_of (placeB' (by omega)) ?_; conv => whnf))
  rw [show ((xs.length : Int) != (xs.length : Int)) = false by simp]
  conv => whnf
  repeat (first | (refine And.intro (by first  | exact rfl | decide | omega | (simp [splice]; done) | (constructor <;> omega) | (simp [splice]; omega)) ?_; conv => whnf) | (refine optK_of (intA (by omega)) ?_; conv => whnf) | (refine optK_of (intA' (by omega)) ?_; conv => whnf) | (refine optK_of (markIA (by omega)) ?_; conv => whnf) | (refine optK_of (gridN (by omega) (by omega)) ?_; conv => whnf) | (refine optK_of (rowN (by omega)) ?_; conv => whnf) | (refine optK_of (roofN (by omega) (by omega)) ?_; conv => whnf) | (refine optK_of (placeA (by omega)) ?_; conv => whnf) | (refine optK_of (placeB (by omega)) ?_; conv => whnf) | (refine optK_of (placeA' (by omega)) ?_; conv => whnf) | (refine optK_of (placeB' (by omega)) ?_; conv => whnf))
  refine loop_rule (α := Nat) (fun i => [(0, intsD m xs), (1, intsD m' xs), (5, .v (.int .i64 i))]) (fun i => []) (fun i => i ≤ xs.length) (fun i => xs.length - i) (0) ?_ (sim_of (rn := []) rfl ?_ ?_) ?_
  · first | omega | (dsimp only; omega) | ((repeat' apply And.intro) <;> omega) | (dsimp only; (repeat' apply And.intro) <;> omega) | trivial
  · ((repeat' (first | exact trivial | apply And.intro)) <;> (first | rfl | exact succ8 (by omega) | exact succ64 (by omega) | exact CapOk.fn (by assumption) _ _ | exact vintS (by omega) | exact vintS (by rw [w64 (by omega) (by omega)]; omega) | exact vintS (by rw [w8 (by omega) (by omega)]; omega) | exact vslcS (by omega) | exact vslcS (by simp)))
  · ((repeat' (first | exact trivial | apply And.intro)) <;> (refine ⟨_, _, rfl, rfl, ?_⟩; first | rfl | (rfl)))
  intro i hi
  conv => whnf
  repeat (first | (refine And.intro (by first  | exact rfl | decide | omega | (simp [splice]; done) | (constructor <;> omega) | (simp [splice]; omega)) ?_; conv => whnf) | (refine optK_of (intA (by omega)) ?_; conv => whnf) | (refine optK_of (intA' (by omega)) ?_; conv => whnf) | (refine optK_of (markIA (by omega)) ?_; conv => whnf) | (refine optK_of (gridN (by omega) (by omega)) ?_; conv => whnf) | (refine optK_of (rowN (by omega)) ?_; conv => whnf) | (refine optK_of (roofN (by omega) (by omega)) ?_; conv => whnf) | (refine optK_of (placeA (by omega)) ?_; conv => whnf) | (refine optK_of (placeB (by omega)) ?_; conv => whnf) | (refine optK_of (placeA' (by omega)) ?_; conv => whnf) | (refine optK_of (placeB' (by omega)) ?_; conv => whnf))
  cases h : decide ((i : Int) < (xs.length : Int))
  · conv => whnf
    repeat (first | (refine And.intro (by first  | exact rfl | decide | omega | (simp [splice]; done) | (constructor <;> omega) | (simp [splice]; omega)) ?_; conv => whnf) | (refine optK_of (intA (by omega)) ?_; conv => whnf) | (refine optK_of (intA' (by omega)) ?_; conv => whnf) | (refine optK_of (markIA (by omega)) ?_; conv => whnf) | (refine optK_of (gridN (by omega) (by omega)) ?_; conv => whnf) | (refine optK_of (rowN (by omega)) ?_; conv => whnf) | (refine optK_of (roofN (by omega) (by omega)) ?_; conv => whnf) | (refine optK_of (placeA (by omega)) ?_; conv => whnf) | (refine optK_of (placeB (by omega)) ?_; conv => whnf) | (refine optK_of (placeA' (by omega)) ?_; conv => whnf) | (refine optK_of (placeB' (by omega)) ?_; conv => whnf))
    first | refine ⟨rfl, _, rfl, ?_⟩ | refine ⟨_, rfl, ?_⟩
    rfl
  have hin : i < xs.length := by simpa using h
  conv => whnf
  repeat (first | (refine And.intro (by first  | exact rfl | decide | omega | (simp [splice]; done) | (constructor <;> omega) | (simp [splice]; omega)) ?_; conv => whnf) | (refine optK_of (intA (by omega)) ?_; conv => whnf) | (refine optK_of (intA' (by omega)) ?_; conv => whnf) | (refine optK_of (markIA (by omega)) ?_; conv => whnf) | (refine optK_of (gridN (by omega) (by omega)) ?_; conv => whnf) | (refine optK_of (rowN (by omega)) ?_; conv => whnf) | (refine optK_of (roofN (by omega) (by omega)) ?_; conv => whnf) | (refine optK_of (placeA (by omega)) ?_; conv => whnf) | (refine optK_of (placeB (by omega)) ?_; conv => whnf) | (refine optK_of (placeA' (by omega)) ?_; conv => whnf) | (refine optK_of (placeB' (by omega)) ?_; conv => whnf))
  rw [show (ix xs i != ix xs i) = false by simp]
  conv => whnf
  repeat (first | (refine And.intro (by first  | exact rfl | decide | omega | (simp [splice]; done) | (constructor <;> omega) | (simp [splice]; omega)) ?_; conv => whnf) | (refine optK_of (intA (by omega)) ?_; conv => whnf) | (refine optK_of (intA' (by omega)) ?_; conv => whnf) | (refine optK_of (markIA (by omega)) ?_; conv => whnf) | (refine optK_of (gridN (by omega) (by omega)) ?_; conv => whnf) | (refine optK_of (rowN (by omega)) ?_; conv => whnf) | (refine optK_of (roofN (by omega) (by omega)) ?_; conv => whnf) | (refine optK_of (placeA (by omega)) ?_; conv => whnf) | (refine optK_of (placeB (by omega)) ?_; conv => whnf) | (refine optK_of (placeA' (by omega)) ?_; conv => whnf) | (refine optK_of (placeB' (by omega)) ?_; conv => whnf))
  refine ⟨i + 1, ?_, ?_, sim_of (rn := []) rfl ?_ ?_⟩
  · (dsimp only; omega)
  · first | omega | (dsimp only; omega) | ((repeat' apply And.intro) <;> omega) | (dsimp only; (repeat' apply And.intro) <;> omega) | trivial
  · ((repeat' (first | exact trivial | apply And.intro)) <;> (first | rfl | exact succ8 (by omega) | exact succ64 (by omega) | exact CapOk.fn (by assumption) _ _ | exact vintS (by omega) | exact vintS (by rw [w64 (by omega) (by omega)]; omega) | exact vintS (by rw [w8 (by omega) (by omega)]; omega) | exact vslcS (by omega) | exact vslcS (by simp)))
  · ((repeat' (first | exact trivial | apply And.intro)) <;> (refine ⟨_, _, rfl, rfl, ?_⟩; first | rfl | (rfl)))
theorem markInt64S_satM (xs : List Int) (hn : xs.length ≤ 1048576) (k : Int) (hk : 0 ≤ k ∧ k ≤ 1048576) :
    SatM Try.prog 22 [.slc true 1 (lentId 0) 0 xs.length, .v (.int .i64 k)] [.v (.agg ⟨intsC xs⟩)] (.v (.int .i64 (k + xs.length))) [some (.v (.agg ⟨intsC (marksI k xs.length)⟩))] [] := by
  refine satM_of_wp hMix tOk Try.func22 rfl rfl Try.ntmps22 rfl rfl Try.results22 (by kernel_rfl) ?_
  conv => whnf
  repeat (first | (refine And.intro (by first  | exact rfl | decide | omega | (simp [splice]; done) | (constructor <;> omega) | (simp [splice]; omega)) ?_; conv => whnf) | (refine optK_of (intA (by omega)) ?_; conv => whnf) | (refine optK_of (intA' (by omega)) ?_; conv => whnf) | (refine optK_of (markIA (by omega)) ?_; conv => whnf) | (refine optK_of (gridN (by omega) (by omega)) ?_; conv => whnf) | (refine optK_of (rowN (by omega)) ?_; conv => whnf) | (refine optK_of (roofN (by omega) (by omega)) ?_; conv => whnf) | (refine optK_of (placeA (by omega)) ?_; conv => whnf) | (refine optK_of (placeB (by omega)) ?_; conv => whnf) | (refine optK_of (placeA' (by omega)) ?_; conv => whnf) | (refine optK_of (placeB' (by omega)) ?_; conv => whnf))
  refine loop_rule (α := Nat) (fun i => [(0, .slc true 1 (lentId 0) 0 xs.length), (1, .v (.int .i64 (k + i))), (5, .v (.int .i64 i))]) (fun i => [(lentId 0, .v (.agg ⟨intsC (markedI k i xs)⟩))]) (fun i => i ≤ xs.length) (fun i => xs.length - i) (0) ?_ (sim_of (rn := []) rfl ?_ ?_) ?_
  · first | omega | (dsimp only; omega) | ((repeat' apply And.intro) <;> omega) | (dsimp only; (repeat' apply And.intro) <;> omega) | trivial
  · ((repeat' (first | exact trivial | apply And.intro)) <;> (first | rfl | exact succ8 (by omega) | exact succ64 (by omega) | exact CapOk.fn (by assumption) _ _ | exact vintS (by omega) | exact vintS (by rw [w64 (by omega) (by omega)]; omega) | exact vintS (by rw [w8 (by omega) (by omega)]; omega) | exact vslcS (by omega) | exact vslcS (by simp)))
  · ((repeat' (first | exact trivial | apply And.intro)) <;> (refine ⟨_, _, rfl, rfl, ?_⟩; first | rfl | (rw [markedI_zero]; rfl)))
  intro i hi
  have hl := markedI_len (k := k) (n := i) (xs := xs) hi
  conv => whnf
  repeat (first | (refine And.intro (by first  | exact rfl | decide | omega | (simp [splice]; done) | (constructor <;> omega) | (simp [splice]; omega)) ?_; conv => whnf) | (refine optK_of (intA (by omega)) ?_; conv => whnf) | (refine optK_of (intA' (by omega)) ?_; conv => whnf) | (refine optK_of (markIA (by omega)) ?_; conv => whnf) | (refine optK_of (gridN (by omega) (by omega)) ?_; conv => whnf) | (refine optK_of (rowN (by omega)) ?_; conv => whnf) | (refine optK_of (roofN (by omega) (by omega)) ?_; conv => whnf) | (refine optK_of (placeA (by omega)) ?_; conv => whnf) | (refine optK_of (placeB (by omega)) ?_; conv => whnf) | (refine optK_of (placeA' (by omega)) ?_; conv => whnf) | (refine optK_of (placeB' (by omega)) ?_; conv => whnf))
  cases h : decide ((i : Int) < (xs.length : Int))
  · have hin : i = xs.length := by simp at h; omega
    subst hin
    conv => whnf
    repeat (first | (refine And.intro (by first  | exact rfl | decide | omega | (simp [splice]; done) | (constructor <;> omega) | (simp [splice]; omega)) ?_; conv => whnf) | (refine optK_of (intA (by omega)) ?_; conv => whnf) | (refine optK_of (intA' (by omega)) ?_; conv => whnf) | (refine optK_of (markIA (by omega)) ?_; conv => whnf) | (refine optK_of (gridN (by omega) (by omega)) ?_; conv => whnf) | (refine optK_of (rowN (by omega)) ?_; conv => whnf) | (refine optK_of (roofN (by omega) (by omega)) ?_; conv => whnf) | (refine optK_of (placeA (by omega)) ?_; conv => whnf) | (refine optK_of (placeB (by omega)) ?_; conv => whnf) | (refine optK_of (placeA' (by omega)) ?_; conv => whnf) | (refine optK_of (placeB' (by omega)) ?_; conv => whnf))
    refine ⟨[], _, rfl, rfl, rfl, ?_, ?_, rfl⟩
    · rfl
    ((repeat' (first | exact trivial | apply And.intro)) <;> (refine ⟨_, rfl, ?_⟩; first | rfl | (exact cset (by rw [markedI_all]))))
  have hin : i < xs.length := by simpa using h
  conv => whnf
  repeat (first | (refine And.intro (by first  | exact rfl | decide | omega | (simp [splice]; done) | (constructor <;> omega) | (simp [splice]; omega)) ?_; conv => whnf) | (refine optK_of (intA (by omega)) ?_; conv => whnf) | (refine optK_of (intA' (by omega)) ?_; conv => whnf) | (refine optK_of (markIA (by omega)) ?_; conv => whnf) | (refine optK_of (gridN (by omega) (by omega)) ?_; conv => whnf) | (refine optK_of (rowN (by omega)) ?_; conv => whnf) | (refine optK_of (roofN (by omega) (by omega)) ?_; conv => whnf) | (refine optK_of (placeA (by omega)) ?_; conv => whnf) | (refine optK_of (placeB (by omega)) ?_; conv => whnf) | (refine optK_of (placeA' (by omega)) ?_; conv => whnf) | (refine optK_of (placeB' (by omega)) ?_; conv => whnf))
  have setA : (intsC (markedI k i xs)).set (0 + (i : Int).toNat * 1) (.int .i64 (k + i)) = intsC (markedI k (i + 1) xs) := by
    rw [show 0 + (i : Int).toNat * 1 = i by omega, intsC_set, markedI_set hin]
  refine ⟨i + 1, ?_, ?_, sim_of (rn := []) rfl ?_ ?_⟩
  · (dsimp only; omega)
  · first | omega | (dsimp only; omega) | ((repeat' apply And.intro) <;> omega) | (dsimp only; (repeat' apply And.intro) <;> omega) | trivial
  · ((repeat' (first | exact trivial | apply And.intro)) <;> (first | rfl | exact succ8 (by omega) | exact succ64 (by omega) | exact CapOk.fn (by assumption) _ _ | exact vintS (by omega) | exact vintS (by rw [w64 (by omega) (by omega)]; omega) | exact vintS (by rw [w8 (by omega) (by omega)]; omega) | exact vslcS (by omega) | exact vslcS (by simp)))
  · ((repeat' (first | exact trivial | apply And.intro)) <;> (refine ⟨_, _, rfl, rfl, ?_⟩; first | rfl | (exact cset setA)))
theorem heldInt64S_sat (n : Nat) (hn : n ≤ 1048576) (k : Int) (hk : 0 ≤ k ∧ k ≤ 1048576) (m : Bool) :
    Sat Try.prog 23 [.row m 1 (.v (.agg ⟨intsC (marksI k n)⟩)) n, .v (.int .i64 k)] (.v (.int .i64 (k + n))) := by
  refine sat_of_wp hMix tOk Try.func23 rfl rfl Try.ntmps23 rfl rfl Try.results23 (by kernel_rfl) ?_
  conv => whnf
  repeat (first | (refine And.intro (by first  | exact rfl | decide | omega | (simp [splice]; done) | (constructor <;> omega) | (simp [splice]; omega)) ?_; conv => whnf) | (refine optK_of (intA (by omega)) ?_; conv => whnf) | (refine optK_of (intA' (by omega)) ?_; conv => whnf) | (refine optK_of (markIA (by omega)) ?_; conv => whnf) | (refine optK_of (gridN (by omega) (by omega)) ?_; conv => whnf) | (refine optK_of (rowN (by omega)) ?_; conv => whnf) | (refine optK_of (roofN (by omega) (by omega)) ?_; conv => whnf) | (refine optK_of (placeA (by omega)) ?_; conv => whnf) | (refine optK_of (placeB (by omega)) ?_; conv => whnf) | (refine optK_of (placeA' (by omega)) ?_; conv => whnf) | (refine optK_of (placeB' (by omega)) ?_; conv => whnf))
  refine loop_rule (α := Nat) (fun i => [(0, .row m 1 (.v (.agg ⟨intsC (marksI k n)⟩)) n), (1, .v (.int .i64 (k + i))), (5, .v (.int .i64 i))]) (fun i => []) (fun i => i ≤ n) (fun i => n - i) (0) ?_ (sim_of (rn := []) rfl ?_ ?_) ?_
  · first | omega | (dsimp only; omega) | ((repeat' apply And.intro) <;> omega) | (dsimp only; (repeat' apply And.intro) <;> omega) | trivial
  · ((repeat' (first | exact trivial | apply And.intro)) <;> (first | rfl | exact succ8 (by omega) | exact succ64 (by omega) | exact CapOk.fn (by assumption) _ _ | exact vintS (by omega) | exact vintS (by rw [w64 (by omega) (by omega)]; omega) | exact vintS (by rw [w8 (by omega) (by omega)]; omega) | exact vslcS (by omega) | exact vslcS (by simp)))
  · ((repeat' (first | exact trivial | apply And.intro)) <;> (refine ⟨_, _, rfl, rfl, ?_⟩; first | rfl | (rfl)))
  intro i hi
  conv => whnf
  repeat (first | (refine And.intro (by first  | exact rfl | decide | omega | (simp [splice]; done) | (constructor <;> omega) | (simp [splice]; omega)) ?_; conv => whnf) | (refine optK_of (intA (by omega)) ?_; conv => whnf) | (refine optK_of (intA' (by omega)) ?_; conv => whnf) | (refine optK_of (markIA (by omega)) ?_; conv => whnf) | (refine optK_of (gridN (by omega) (by omega)) ?_; conv => whnf) | (refine optK_of (rowN (by omega)) ?_; conv => whnf) | (refine optK_of (roofN (by omega) (by omega)) ?_; conv => whnf) | (refine optK_of (placeA (by omega)) ?_; conv => whnf) | (refine optK_of (placeB (by omega)) ?_; conv => whnf) | (refine optK_of (placeA' (by omega)) ?_; conv => whnf) | (refine optK_of (placeB' (by omega)) ?_; conv => whnf))
  cases h : decide ((i : Int) < (n : Int))
  · have hin : i = n := by simp at h; omega
    subst hin
    conv => whnf
    repeat (first | (refine And.intro (by first  | exact rfl | decide | omega | (simp [splice]; done) | (constructor <;> omega) | (simp [splice]; omega)) ?_; conv => whnf) | (refine optK_of (intA (by omega)) ?_; conv => whnf) | (refine optK_of (intA' (by omega)) ?_; conv => whnf) | (refine optK_of (markIA (by omega)) ?_; conv => whnf) | (refine optK_of (gridN (by omega) (by omega)) ?_; conv => whnf) | (refine optK_of (rowN (by omega)) ?_; conv => whnf) | (refine optK_of (roofN (by omega) (by omega)) ?_; conv => whnf) | (refine optK_of (placeA (by omega)) ?_; conv => whnf) | (refine optK_of (placeB (by omega)) ?_; conv => whnf) | (refine optK_of (placeA' (by omega)) ?_; conv => whnf) | (refine optK_of (placeB' (by omega)) ?_; conv => whnf))
    first | refine ⟨rfl, _, rfl, ?_⟩ | refine ⟨_, rfl, ?_⟩
    rfl
  have hin : i < n := by simpa using h
  conv => whnf
  repeat (first | (refine And.intro (by first  | exact rfl | decide | omega | (simp [splice]; done) | (constructor <;> omega) | (simp [splice]; omega)) ?_; conv => whnf) | (refine optK_of (intA (by omega)) ?_; conv => whnf) | (refine optK_of (intA' (by omega)) ?_; conv => whnf) | (refine optK_of (markIA (by omega)) ?_; conv => whnf) | (refine optK_of (gridN (by omega) (by omega)) ?_; conv => whnf) | (refine optK_of (rowN (by omega)) ?_; conv => whnf) | (refine optK_of (roofN (by omega) (by omega)) ?_; conv => whnf) | (refine optK_of (placeA (by omega)) ?_; conv => whnf) | (refine optK_of (placeB (by omega)) ?_; conv => whnf) | (refine optK_of (placeA' (by omega)) ?_; conv => whnf) | (refine optK_of (placeB' (by omega)) ?_; conv => whnf))
  rw [show (k + (i : Int) != k + (i : Int)) = false by simp]
  conv => whnf
  repeat (first | (refine And.intro (by first  | exact rfl | decide | omega | (simp [splice]; done) | (constructor <;> omega) | (simp [splice]; omega)) ?_; conv => whnf) | (refine optK_of (intA (by omega)) ?_; conv => whnf) | (refine optK_of (intA' (by omega)) ?_; conv => whnf) | (refine optK_of (markIA (by omega)) ?_; conv => whnf) | (refine optK_of (gridN (by omega) (by omega)) ?_; conv => whnf) | (refine optK_of (rowN (by omega)) ?_; conv => whnf) | (refine optK_of (roofN (by omega) (by omega)) ?_; conv => whnf) | (refine optK_of (placeA (by omega)) ?_; conv => whnf) | (refine optK_of (placeB (by omega)) ?_; conv => whnf) | (refine optK_of (placeA' (by omega)) ?_; conv => whnf) | (refine optK_of (placeB' (by omega)) ?_; conv => whnf))
  refine ⟨i + 1, ?_, ?_, sim_of (rn := []) rfl ?_ ?_⟩
  · (dsimp only; omega)
  · first | omega | (dsimp only; omega) | ((repeat' apply And.intro) <;> omega) | (dsimp only; (repeat' apply And.intro) <;> omega) | trivial
  · ((repeat' (first | exact trivial | apply And.intro)) <;> (first | rfl | exact succ8 (by omega) | exact succ64 (by omega) | exact CapOk.fn (by assumption) _ _ | exact vintS (by omega) | exact vintS (by rw [w64 (by omega) (by omega)]; omega) | exact vintS (by rw [w8 (by omega) (by omega)]; omega) | exact vslcS (by omega) | exact vslcS (by simp)))
  · ((repeat' (first | exact trivial | apply And.intro)) <;> (refine ⟨_, _, rfl, rfl, ?_⟩; first | rfl | (rfl)))
theorem visits_sat (old life years : Int) (ho : 0 ≤ old ∧ old ≤ 100) (hl : 1 ≤ life ∧ life ≤ 100) (hy : 0 ≤ years ∧ years ≤ 200) : Sat Try.prog 68 [.v (.int .i64 old), .v (.int .i64 life), .v (.int .i64 years)] (intsD true (visL life years 400 (life - old))) := by
  refine satN_of_wp hMix tOk Try.func68 rfl rfl Try.ntmps68 rfl rfl Try.results68 (by kernel_rfl) ?_
  conv => whnf
  repeat (first | (refine And.intro (by first  | exact rfl | decide | omega | (simp [splice]; done) | (constructor <;> omega) | (simp [splice]; omega)) ?_; conv => whnf) | (refine optK_of (intA (by omega)) ?_; conv => whnf) | (refine optK_of (intA' (by omega)) ?_; conv => whnf) | (refine optK_of (markIA (by omega)) ?_; conv => whnf) | (refine optK_of (gridN (by omega) (by omega)) ?_; conv => whnf) | (refine optK_of (rowN (by omega)) ?_; conv => whnf) | (refine optK_of (roofN (by omega) (by omega)) ?_; conv => whnf) | (refine optK_of (placeA (by omega)) ?_; conv => whnf) | (refine optK_of (placeB (by omega)) ?_; conv => whnf) | (refine optK_of (placeA' (by omega)) ?_; conv => whnf) | (refine optK_of (placeB' (by omega)) ?_; conv => whnf))
  rw [show IntKind.i64.wrap (life - old) = life - old from w64 (by omega) (by omega)]
  refine loop_rule (α := Nat × Int × List Int) (fun x => [(1, .v (.int .i64 life)), (2, .v (.int .i64 years)), (7, .slc true 1 (21, 0, 0) 0 x.2.2.length), (8, .v (.int .i64 x.2.1))]) (fun x => [((21, 0, 0), .v (.agg ⟨intsC x.2.2⟩))]) (fun x => x.2.2 ++ visL life years x.1 x.2.1 = visL life years 400 (life - old) ∧ x.2.2.length + x.1 = 400 ∧ -100 ≤ x.2.1 ∧ x.2.1 ≤ 300 ∧ years - x.2.1 ≤ x.1) (fun x => x.1) ((400, life - old, [])) ?_ (sim_of (rn := [((21, 0, 0), nilId)]) rfl ?_ ?_) ?_
  · exact ⟨rfl, rfl, by dsimp only; omega, by dsimp only; omega, by dsimp only; omega⟩
  · ((repeat' (first | exact trivial | apply And.intro)) <;> (first | rfl | exact succ8 (by omega) | exact succ64 (by omega) | exact CapOk.fn (by assumption) _ _ | exact vintS (by omega) | exact vintS (by rw [w64 (by omega) (by omega)]; omega) | exact vintS (by rw [w8 (by omega) (by omega)]; omega) | exact vslcS (by omega) | exact vslcS (by simp)))
  · ((repeat' (first | exact trivial | apply And.intro)) <;> (refine ⟨_, _, rfl, rfl, ?_⟩; first | rfl | (rw [intsC_nil]; rfl)))
  rintro ⟨f, v, acc⟩ ⟨h1, h2, h3, h4, h5⟩
  dsimp only at h1 h2 h3 h4 h5
  conv => whnf
  repeat (first | (refine And.intro (by first  | exact rfl | decide | omega | (simp [splice]; done) | (constructor <;> omega) | (simp [splice]; omega)) ?_; conv => whnf) | (refine optK_of (intA (by omega)) ?_; conv => whnf) | (refine optK_of (intA' (by omega)) ?_; conv => whnf) | (refine optK_of (markIA (by omega)) ?_; conv => whnf) | (refine optK_of (gridN (by omega) (by omega)) ?_; conv => whnf) | (refine optK_of (rowN (by omega)) ?_; conv => whnf) | (refine optK_of (roofN (by omega) (by omega)) ?_; conv => whnf) | (refine optK_of (placeA (by omega)) ?_; conv => whnf) | (refine optK_of (placeB (by omega)) ?_; conv => whnf) | (refine optK_of (placeA' (by omega)) ?_; conv => whnf) | (refine optK_of (placeB' (by omega)) ?_; conv => whnf))
  cases h : decide (v < years)
  · have hv : ¬ v < years := by simpa using h
    have : visL life years f v = [] := by
      cases f with
      | zero => rfl
      | succ f => simp only [visL, if_neg hv]
    rw [this, List.append_nil] at h1
    rw [← h1]
    conv => whnf
    repeat (first | (refine And.intro (by first  | exact rfl | decide | omega | (simp [splice]; done) | (constructor <;> omega) | (simp [splice]; omega)) ?_; conv => whnf) | (refine optK_of (intA (by omega)) ?_; conv => whnf) | (refine optK_of (intA' (by omega)) ?_; conv => whnf) | (refine optK_of (markIA (by omega)) ?_; conv => whnf) | (refine optK_of (gridN (by omega) (by omega)) ?_; conv => whnf) | (refine optK_of (rowN (by omega)) ?_; conv => whnf) | (refine optK_of (roofN (by omega) (by omega)) ?_; conv => whnf) | (refine optK_of (placeA (by omega)) ?_; conv => whnf) | (refine optK_of (placeB (by omega)) ?_; conv => whnf) | (refine optK_of (placeA' (by omega)) ?_; conv => whnf) | (refine optK_of (placeB' (by omega)) ?_; conv => whnf))
    first | refine ⟨rfl, _, rfl, [_], rfl, ?_, rfl⟩ | refine ⟨_, rfl, [_], rfl, ?_, rfl⟩
    ((repeat' (first | exact trivial | apply And.intro)) <;> first | exact .inl rfl | exact .inr ⟨rfl, rfl⟩)
  have hv : v < years := by simpa using h
  obtain ⟨f, rfl⟩ : ∃ g, f = g + 1 := ⟨f - 1, by omega⟩
  rw [visL_step hv] at h1
  conv => whnf
  repeat (first | (refine And.intro (by first  | exact rfl | decide | omega | (simp [splice]; done) | (constructor <;> omega) | (simp [splice]; omega)) ?_; conv => whnf) | (refine optK_of (intA (by omega)) ?_; conv => whnf) | (refine optK_of (intA' (by omega)) ?_; conv => whnf) | (refine optK_of (markIA (by omega)) ?_; conv => whnf) | (refine optK_of (gridN (by omega) (by omega)) ?_; conv => whnf) | (refine optK_of (rowN (by omega)) ?_; conv => whnf) | (refine optK_of (roofN (by omega) (by omega)) ?_; conv => whnf) | (refine optK_of (placeA (by omega)) ?_; conv => whnf) | (refine optK_of (placeB (by omega)) ?_; conv => whnf) | (refine optK_of (placeA' (by omega)) ?_; conv => whnf) | (refine optK_of (placeB' (by omega)) ?_; conv => whnf))
  rw [show IntKind.i64.wrap (v + life) = v + life from w64 (by omega) (by omega)]
  have e2 : intsC acc ++ [.int .i64 v] = intsC (acc ++ [v]) := by rw [intsC_append, intsC_one]
  refine ⟨(f, v + life, acc ++ [v]), ?_, ?_, sim_of (rn := [((21, 0, 0), (21, 1, 0))]) rfl ?_ ?_⟩
  · (dsimp only; omega)
  · exact ⟨by rw [List.append_assoc]; exact h1, by simp; omega, by dsimp only; omega, by dsimp only; omega, by dsimp only; omega⟩
  · ((repeat' (first | exact trivial | apply And.intro)) <;> (first | rfl | exact succ8 (by omega) | exact succ64 (by omega) | exact CapOk.fn (by assumption) _ _ | exact vintS (by omega) | exact vintS (by rw [w64 (by omega) (by omega)]; omega) | exact vintS (by rw [w8 (by omega) (by omega)]; omega) | exact vslcS (by omega) | exact vslcS (by simp)))
  · ((repeat' (first | exact trivial | apply And.intro)) <;> (refine ⟨_, _, rfl, rfl, ?_⟩; first | rfl | (exact cset e2)))
theorem l07Visits_sat (r : Roof) (hr : r.In) (hb : (1 ≤ r.w ∧ r.w ≤ 8) ∧ (1 ≤ r.h ∧ r.h ≤ 8) ∧ r.s ≤ 1) (a : Nat → Nat → Int) (ha : AgesIn a) (hold : 0 ≤ ageP a (oldP r a) ∧ ageP a (oldP r a) ≤ 100) (life years : Int) (hl : 1 ≤ life ∧ life ≤ 100) (hy : 0 ≤ years ∧ years ≤ 200) :
    Sat Try.prog 63 [.ref false (roofD r) 0, .ref false (gridD a) 0, .v (.int .i64 life), .v (.int .i64 years)]
      (.tup [intsD true (if ageP a (oldP r a) > life then [] else visL life years 400 (life - ageP a (oldP r a))), .v (.bool (!decide (ageP a (oldP r a) > life)))]) := by
  refine sat_of_wp hMix tOk Try.func63 rfl rfl Try.ntmps63 rfl rfl Try.results63 (by kernel_rfl) ?_
  conv => whnf
  repeat (first | (refine And.intro (by first  | exact rfl | decide | omega | (simp [splice]; done) | (constructor <;> omega) | (simp [splice]; omega)) ?_; conv => whnf) | (refine optK_of (intA (by omega)) ?_; conv => whnf) | (refine optK_of (intA' (by omega)) ?_; conv => whnf) | (refine optK_of (markIA (by omega)) ?_; conv => whnf) | (refine optK_of (gridN (by omega) (by omega)) ?_; conv => whnf) | (refine optK_of (rowN (by omega)) ?_; conv => whnf) | (refine optK_of (roofN (by omega) (by omega)) ?_; conv => whnf) | (refine optK_of (placeA (by omega)) ?_; conv => whnf) | (refine optK_of (placeB (by omega)) ?_; conv => whnf) | (refine optK_of (placeA' (by omega)) ?_; conv => whnf) | (refine optK_of (placeB' (by omega)) ?_; conv => whnf))
  first | refine ⟨_, _, rfl, Sat.of_eq (l07Oldest_sat r hr hb a ha) (by repeat (first | rfl | exact vfull (by first | (simp [splice]; done) | (simp [splice]; omega)) | exact rfull (by first | (simp [splice]; done) | (simp [splice]; omega)) | exact vplace (by simp; done) (by omega) | exact vrow (by simp; done) (by omega) | exact vtiles (by simp) | exact vsplice (by simp) (by simp) | refine ceq ?_ ?_ | refine Eq.trans (vsplice (by first | (simp; done) | (simp; omega)) (by first | (simp; done) | (simp; omega))) ?_)), ?_⟩ | refine .inl ⟨_, _, rfl, Sat.of_eq (l07Oldest_sat r hr hb a ha) (by repeat (first | rfl | exact vfull (by first | (simp [splice]; done) | (simp [splice]; omega)) | exact rfull (by first | (simp [splice]; done) | (simp [splice]; omega)) | exact vplace (by simp; done) (by omega) | exact vrow (by simp; done) (by omega) | exact vtiles (by simp) | exact vsplice (by simp) (by simp) | refine ceq ?_ ?_ | refine Eq.trans (vsplice (by first | (simp; done) | (simp; omega)) (by first | (simp; done) | (simp; omega))) ?_)), ?_⟩
  conv => whnf
  repeat (first | (refine And.intro (by first  | exact rfl | decide | omega | (simp [splice]; done) | (constructor <;> omega) | (simp [splice]; omega)) ?_; conv => whnf) | (refine optK_of (intA (by omega)) ?_; conv => whnf) | (refine optK_of (intA' (by omega)) ?_; conv => whnf) | (refine optK_of (markIA (by omega)) ?_; conv => whnf) | (refine optK_of (gridN (by omega) (by omega)) ?_; conv => whnf) | (refine optK_of (rowN (by omega)) ?_; conv => whnf) | (refine optK_of (roofN (by omega) (by omega)) ?_; conv => whnf) | (refine optK_of (placeA (by omega)) ?_; conv => whnf) | (refine optK_of (placeB (by omega)) ?_; conv => whnf) | (refine optK_of (placeA' (by omega)) ?_; conv => whnf) | (refine optK_of (placeB' (by omega)) ?_; conv => whnf))
  generalize ageP a (oldP r a) = old at *
  cases h : decide (old > life)
  case true =>
    have h' : old > life := by simpa using h
    conv => whnf
    repeat (first | (refine And.intro (by first  | exact rfl | decide | omega | (simp [splice]; done) | (constructor <;> omega) | (simp [splice]; omega)) ?_; conv => whnf) | (refine optK_of (intA (by omega)) ?_; conv => whnf) | (refine optK_of (intA' (by omega)) ?_; conv => whnf) | (refine optK_of (markIA (by omega)) ?_; conv => whnf) | (refine optK_of (gridN (by omega) (by omega)) ?_; conv => whnf) | (refine optK_of (rowN (by omega)) ?_; conv => whnf) | (refine optK_of (roofN (by omega) (by omega)) ?_; conv => whnf) | (refine optK_of (placeA (by omega)) ?_; conv => whnf) | (refine optK_of (placeB (by omega)) ?_; conv => whnf) | (refine optK_of (placeA' (by omega)) ?_; conv => whnf) | (refine optK_of (placeB' (by omega)) ?_; conv => whnf))
    first | refine ⟨rfl, _, rfl, ?_⟩ | refine ⟨_, rfl, ?_⟩
    skip
    rw [if_pos h']; unfold intsD; rw [intsC_nil]; rfl
  have h' : ¬ old > life := by simpa using h
  rw [if_neg h']
  conv => whnf
  repeat (first | (refine And.intro (by first  | exact rfl | decide | omega | (simp [splice]; done) | (constructor <;> omega) | (simp [splice]; omega)) ?_; conv => whnf) | (refine optK_of (intA (by omega)) ?_; conv => whnf) | (refine optK_of (intA' (by omega)) ?_; conv => whnf) | (refine optK_of (markIA (by omega)) ?_; conv => whnf) | (refine optK_of (gridN (by omega) (by omega)) ?_; conv => whnf) | (refine optK_of (rowN (by omega)) ?_; conv => whnf) | (refine optK_of (roofN (by omega) (by omega)) ?_; conv => whnf) | (refine optK_of (placeA (by omega)) ?_; conv => whnf) | (refine optK_of (placeB (by omega)) ?_; conv => whnf) | (refine optK_of (placeA' (by omega)) ?_; conv => whnf) | (refine optK_of (placeB' (by omega)) ?_; conv => whnf))
  rw [show IntKind.i64.wrap (0 - old) = - old from by rw [w64 (by omega) (by omega)]; omega]
  refine loop_rule (α := Nat × Int × List Int) (fun x => [(2, .v (.int .i64 life)), (3, .v (.int .i64 years)), (10, .slc true 1 (38, 0, 0) 0 x.2.2.length), (13, .v (.int .i64 x.2.1))]) (fun x => [((38, 0, 0), .v (.agg ⟨intsC x.2.2⟩))]) (fun x => x.2.2 ++ visL life years x.1 (x.2.1 + life) = visL life years 400 (life - old) ∧ x.2.2.length + x.1 = 400 ∧ -100 ≤ x.2.1 ∧ x.2.1 ≤ 200 ∧ years - (x.2.1 + life) ≤ x.1) (fun x => x.1) ((400, - old, [])) ?_ (sim_of (rn := [((38, 0, 0), (14, 0, 0))]) rfl ?_ ?_) ?_
  · exact ⟨by rw [show -old + life = life - old by omega]; rfl, rfl, by dsimp only; omega, by dsimp only; omega, by dsimp only; omega⟩
  · ((repeat' (first | exact trivial | apply And.intro)) <;> (first | rfl | exact succ8 (by omega) | exact succ64 (by omega) | exact CapOk.fn (by assumption) _ _ | exact vintS (by omega) | exact vintS (by rw [w64 (by omega) (by omega)]; omega) | exact vintS (by rw [w8 (by omega) (by omega)]; omega) | exact vslcS (by omega) | exact vslcS (by simp)))
  · ((repeat' (first | exact trivial | apply And.intro)) <;> (refine ⟨_, _, rfl, rfl, ?_⟩; first | rfl | (rw [intsC_nil]; rfl)))
  rintro ⟨f, v, acc⟩ ⟨h1, h2, h3, h4, h5⟩
  dsimp only at h1 h2 h3 h4 h5
  conv => whnf
  repeat (first | (refine And.intro (by first  | exact rfl | decide | omega | (simp [splice]; done) | (constructor <;> omega) | (simp [splice]; omega)) ?_; conv => whnf) | (refine optK_of (intA (by omega)) ?_; conv => whnf) | (refine optK_of (intA' (by omega)) ?_; conv => whnf) | (refine optK_of (markIA (by omega)) ?_; conv => whnf) | (refine optK_of (gridN (by omega) (by omega)) ?_; conv => whnf) | (refine optK_of (rowN (by omega)) ?_; conv => whnf) | (refine optK_of (roofN (by omega) (by omega)) ?_; conv => whnf) | (refine optK_of (placeA (by omega)) ?_; conv => whnf) | (refine optK_of (placeB (by omega)) ?_; conv => whnf) | (refine optK_of (placeA' (by omega)) ?_; conv => whnf) | (refine optK_of (placeB' (by omega)) ?_; conv => whnf))
  rw [show IntKind.i64.wrap (years - v) = years - v from w64 (by omega) (by omega)]
  cases h6 : decide (years - v > life)
  · have hv : ¬ v + life < years := by simp at h6; omega
    have : visL life years f (v + life) = [] := by
      cases f with
      | zero => rfl
      | succ f => simp only [visL, if_neg hv]
    rw [this, List.append_nil] at h1
    rw [← h1]
    conv => whnf
    repeat (first | (refine And.intro (by first  | exact rfl | decide | omega | (simp [splice]; done) | (constructor <;> omega) | (simp [splice]; omega)) ?_; conv => whnf) | (refine optK_of (intA (by omega)) ?_; conv => whnf) | (refine optK_of (intA' (by omega)) ?_; conv => whnf) | (refine optK_of (markIA (by omega)) ?_; conv => whnf) | (refine optK_of (gridN (by omega) (by omega)) ?_; conv => whnf) | (refine optK_of (rowN (by omega)) ?_; conv => whnf) | (refine optK_of (roofN (by omega) (by omega)) ?_; conv => whnf) | (refine optK_of (placeA (by omega)) ?_; conv => whnf) | (refine optK_of (placeB (by omega)) ?_; conv => whnf) | (refine optK_of (placeA' (by omega)) ?_; conv => whnf) | (refine optK_of (placeB' (by omega)) ?_; conv => whnf))
    first | refine ⟨rfl, _, rfl, ?_⟩ | refine ⟨_, rfl, ?_⟩
    rfl
  have hv : v + life < years := by simp at h6; omega
  obtain ⟨f, rfl⟩ : ∃ g, f = g + 1 := ⟨f - 1, by omega⟩
  rw [visL_step hv] at h1
  have ew : IntKind.i64.wrap (v + life) = v + life := w64 (by omega) (by omega)
  conv => whnf
  repeat (first | (refine And.intro (by first  | exact rfl | decide | omega | (simp [splice]; done) | (constructor <;> omega) | (simp [splice]; omega)) ?_; conv => whnf) | (refine optK_of (intA (by omega)) ?_; conv => whnf) | (refine optK_of (intA' (by omega)) ?_; conv => whnf) | (refine optK_of (markIA (by omega)) ?_; conv => whnf) | (refine optK_of (gridN (by omega) (by omega)) ?_; conv => whnf) | (refine optK_of (rowN (by omega)) ?_; conv => whnf) | (refine optK_of (roofN (by omega) (by omega)) ?_; conv => whnf) | (refine optK_of (placeA (by omega)) ?_; conv => whnf) | (refine optK_of (placeB (by omega)) ?_; conv => whnf) | (refine optK_of (placeA' (by omega)) ?_; conv => whnf) | (refine optK_of (placeB' (by omega)) ?_; conv => whnf))
  rw [ew]
  have e2 : intsC acc ++ [.int .i64 (v + life)] = intsC (acc ++ [v + life]) := by rw [intsC_append, intsC_one]
  refine ⟨(f, v + life, acc ++ [v + life]), ?_, ?_, sim_of (rn := [((38, 0, 0), (38, 1, 0))]) rfl ?_ ?_⟩
  · (dsimp only; omega)
  · exact ⟨by rw [List.append_assoc]; exact h1, by simp; omega, by dsimp only; omega, by dsimp only; omega, by dsimp only; omega⟩
  · ((repeat' (first | exact trivial | apply And.intro)) <;> (first | rfl | exact succ8 (by omega) | exact succ64 (by omega) | exact CapOk.fn (by assumption) _ _ | exact vintS (by omega) | exact vintS (by rw [w64 (by omega) (by omega)]; omega) | exact vintS (by rw [w8 (by omega) (by omega)]; omega) | exact vslcS (by omega) | exact vslcS (by simp)))
  · ((repeat' (first | exact trivial | apply And.intro)) <;> (refine ⟨_, _, rfl, rfl, ?_⟩; first | rfl | (exact cset e2)))
theorem visitsCode_sat (r : Roof) (hr : r.In) (a : Nat → Nat → Int) (ha : AgesIn a) (life years : Int) : Sat Try.prog 67 [roofD r, gridD a, .v (.int .i64 life), .v (.int .i64 years)] (.v (.int .i64 (visK r a life years))) := by
  have hcode : ∀ b, (lifeOk life && yearsOk years) = b → brkK r a life years = askC r a b := fun b h => by unfold brkK; rw [h]
  have err : ¬ brkK r a life years = 0 → visK r a life years = brkK r a life years := fun h => by unfold visK; rw [if_neg h]
  refine sat_of_wp hMix tOk Try.func67 rfl rfl Try.ntmps67 rfl rfl Try.results67 (by kernel_rfl) ?_
  conv => whnf
  repeat (first | (refine And.intro (by first  | exact rfl | decide | omega | (simp [splice]; done) | (constructor <;> omega) | (simp [splice]; omega)) ?_; conv => whnf) | (refine optK_of (intA (by omega)) ?_; conv => whnf) | (refine optK_of (intA' (by omega)) ?_; conv => whnf) | (refine optK_of (markIA (by omega)) ?_; conv => whnf) | (refine optK_of (gridN (by omega) (by omega)) ?_; conv => whnf) | (refine optK_of (rowN (by omega)) ?_; conv => whnf) | (refine optK_of (roofN (by omega) (by omega)) ?_; conv => whnf) | (refine optK_of (placeA (by omega)) ?_; conv => whnf) | (refine optK_of (placeB (by omega)) ?_; conv => whnf) | (refine optK_of (placeA' (by omega)) ?_; conv => whnf) | (refine optK_of (placeB' (by omega)) ?_; conv => whnf))
  first | refine ⟨_, _, rfl, Sat.of_eq (isLife_sat life) (by repeat (first | rfl | exact vfull (by first | (simp [splice]; done) | (simp [splice]; omega)) | exact rfull (by first | (simp [splice]; done) | (simp [splice]; omega)) | exact vplace (by simp; done) (by omega) | exact vrow (by simp; done) (by omega) | exact vtiles (by simp) | exact vsplice (by simp) (by simp) | refine ceq ?_ ?_ | refine Eq.trans (vsplice (by first | (simp; done) | (simp; omega)) (by first | (simp; done) | (simp; omega))) ?_)), ?_⟩ | refine .inl ⟨_, _, rfl, Sat.of_eq (isLife_sat life) (by repeat (first | rfl | exact vfull (by first | (simp [splice]; done) | (simp [splice]; omega)) | exact rfull (by first | (simp [splice]; done) | (simp [splice]; omega)) | exact vplace (by simp; done) (by omega) | exact vrow (by simp; done) (by omega) | exact vtiles (by simp) | exact vsplice (by simp) (by simp) | refine ceq ?_ ?_ | refine Eq.trans (vsplice (by first | (simp; done) | (simp; omega)) (by first | (simp; done) | (simp; omega))) ?_)), ?_⟩
  conv => whnf
  repeat (first | (refine And.intro (by first  | exact rfl | decide | omega | (simp [splice]; done) | (constructor <;> omega) | (simp [splice]; omega)) ?_; conv => whnf) | (refine optK_of (intA (by omega)) ?_; conv => whnf) | (refine optK_of (intA' (by omega)) ?_; conv => whnf) | (refine optK_of (markIA (by omega)) ?_; conv => whnf) | (refine optK_of (gridN (by omega) (by omega)) ?_; conv => whnf) | (refine optK_of (rowN (by omega)) ?_; conv => whnf) | (refine optK_of (roofN (by omega) (by omega)) ?_; conv => whnf) | (refine optK_of (placeA (by omega)) ?_; conv => whnf) | (refine optK_of (placeB (by omega)) ?_; conv => whnf) | (refine optK_of (placeA' (by omega)) ?_; conv => whnf) | (refine optK_of (placeB' (by omega)) ?_; conv => whnf))
  cases hL : lifeOk life
  · conv => whnf
    repeat (first | (refine And.intro (by first  | exact rfl | decide | omega | (simp [splice]; done) | (constructor <;> omega) | (simp [splice]; omega)) ?_; conv => whnf) | (refine optK_of (intA (by omega)) ?_; conv => whnf) | (refine optK_of (intA' (by omega)) ?_; conv => whnf) | (refine optK_of (markIA (by omega)) ?_; conv => whnf) | (refine optK_of (gridN (by omega) (by omega)) ?_; conv => whnf) | (refine optK_of (rowN (by omega)) ?_; conv => whnf) | (refine optK_of (roofN (by omega) (by omega)) ?_; conv => whnf) | (refine optK_of (placeA (by omega)) ?_; conv => whnf) | (refine optK_of (placeB (by omega)) ?_; conv => whnf) | (refine optK_of (placeA' (by omega)) ?_; conv => whnf) | (refine optK_of (placeB' (by omega)) ?_; conv => whnf))
    first | refine ⟨_, _, rfl, Sat.of_eq (agesCode_sat r hr a ha _) (by repeat (first | rfl | exact vfull (by first | (simp [splice]; done) | (simp [splice]; omega)) | exact rfull (by first | (simp [splice]; done) | (simp [splice]; omega)) | exact vplace (by simp; done) (by omega) | exact vrow (by simp; done) (by omega) | exact vtiles (by simp) | exact vsplice (by simp) (by simp) | refine ceq ?_ ?_ | refine Eq.trans (vsplice (by first | (simp; done) | (simp; omega)) (by first | (simp; done) | (simp; omega))) ?_)), ?_⟩ | refine .inl ⟨_, _, rfl, Sat.of_eq (agesCode_sat r hr a ha _) (by repeat (first | rfl | exact vfull (by first | (simp [splice]; done) | (simp [splice]; omega)) | exact rfull (by first | (simp [splice]; done) | (simp [splice]; omega)) | exact vplace (by simp; done) (by omega) | exact vrow (by simp; done) (by omega) | exact vtiles (by simp) | exact vsplice (by simp) (by simp) | refine ceq ?_ ?_ | refine Eq.trans (vsplice (by first | (simp; done) | (simp; omega)) (by first | (simp; done) | (simp; omega))) ?_)), ?_⟩
    conv => whnf
    repeat (first | (refine And.intro (by first  | exact rfl | decide | omega | (simp [splice]; done) | (constructor <;> omega) | (simp [splice]; omega)) ?_; conv => whnf) | (refine optK_of (intA (by omega)) ?_; conv => whnf) | (refine optK_of (intA' (by omega)) ?_; conv => whnf) | (refine optK_of (markIA (by omega)) ?_; conv => whnf) | (refine optK_of (gridN (by omega) (by omega)) ?_; conv => whnf) | (refine optK_of (rowN (by omega)) ?_; conv => whnf) | (refine optK_of (roofN (by omega) (by omega)) ?_; conv => whnf) | (refine optK_of (placeA (by omega)) ?_; conv => whnf) | (refine optK_of (placeB (by omega)) ?_; conv => whnf) | (refine optK_of (placeA' (by omega)) ?_; conv => whnf) | (refine optK_of (placeB' (by omega)) ?_; conv => whnf))
    rw [← hcode false (by simp [hL])]
    have h1' : ¬ brkK r a life years = 0 := by
      rw [hcode false (by simp [hL])]
      intro h; have := (askC_ok h).2; cases this
    rw [show (brkK r a life years == 0) = false by simpa using h1']
    conv => whnf
    repeat (first | (refine And.intro (by first  | exact rfl | decide | omega | (simp [splice]; done) | (constructor <;> omega) | (simp [splice]; omega)) ?_; conv => whnf) | (refine optK_of (intA (by omega)) ?_; conv => whnf) | (refine optK_of (intA' (by omega)) ?_; conv => whnf) | (refine optK_of (markIA (by omega)) ?_; conv => whnf) | (refine optK_of (gridN (by omega) (by omega)) ?_; conv => whnf) | (refine optK_of (rowN (by omega)) ?_; conv => whnf) | (refine optK_of (roofN (by omega) (by omega)) ?_; conv => whnf) | (refine optK_of (placeA (by omega)) ?_; conv => whnf) | (refine optK_of (placeB (by omega)) ?_; conv => whnf) | (refine optK_of (placeA' (by omega)) ?_; conv => whnf) | (refine optK_of (placeB' (by omega)) ?_; conv => whnf))
    first | refine ⟨rfl, _, rfl, ?_⟩ | refine ⟨_, rfl, ?_⟩
    skip
    rw [err h1']; rfl
  · conv => whnf
    repeat (first | (refine And.intro (by first  | exact rfl | decide | omega | (simp [splice]; done) | (constructor <;> omega) | (simp [splice]; omega)) ?_; conv => whnf) | (refine optK_of (intA (by omega)) ?_; conv => whnf) | (refine optK_of (intA' (by omega)) ?_; conv => whnf) | (refine optK_of (markIA (by omega)) ?_; conv => whnf) | (refine optK_of (gridN (by omega) (by omega)) ?_; conv => whnf) | (refine optK_of (rowN (by omega)) ?_; conv => whnf) | (refine optK_of (roofN (by omega) (by omega)) ?_; conv => whnf) | (refine optK_of (placeA (by omega)) ?_; conv => whnf) | (refine optK_of (placeB (by omega)) ?_; conv => whnf) | (refine optK_of (placeA' (by omega)) ?_; conv => whnf) | (refine optK_of (placeB' (by omega)) ?_; conv => whnf))
    first | refine ⟨_, _, rfl, Sat.of_eq (isYears_sat years) (by repeat (first | rfl | exact vfull (by first | (simp [splice]; done) | (simp [splice]; omega)) | exact rfull (by first | (simp [splice]; done) | (simp [splice]; omega)) | exact vplace (by simp; done) (by omega) | exact vrow (by simp; done) (by omega) | exact vtiles (by simp) | exact vsplice (by simp) (by simp) | refine ceq ?_ ?_ | refine Eq.trans (vsplice (by first | (simp; done) | (simp; omega)) (by first | (simp; done) | (simp; omega))) ?_)), ?_⟩ | refine .inl ⟨_, _, rfl, Sat.of_eq (isYears_sat years) (by repeat (first | rfl | exact vfull (by first | (simp [splice]; done) | (simp [splice]; omega)) | exact rfull (by first | (simp [splice]; done) | (simp [splice]; omega)) | exact vplace (by simp; done) (by omega) | exact vrow (by simp; done) (by omega) | exact vtiles (by simp) | exact vsplice (by simp) (by simp) | refine ceq ?_ ?_ | refine Eq.trans (vsplice (by first | (simp; done) | (simp; omega)) (by first | (simp; done) | (simp; omega))) ?_)), ?_⟩
    conv => whnf
    repeat (first | (refine And.intro (by first  | exact rfl | decide | omega | (simp [splice]; done) | (constructor <;> omega) | (simp [splice]; omega)) ?_; conv => whnf) | (refine optK_of (intA (by omega)) ?_; conv => whnf) | (refine optK_of (intA' (by omega)) ?_; conv => whnf) | (refine optK_of (markIA (by omega)) ?_; conv => whnf) | (refine optK_of (gridN (by omega) (by omega)) ?_; conv => whnf) | (refine optK_of (rowN (by omega)) ?_; conv => whnf) | (refine optK_of (roofN (by omega) (by omega)) ?_; conv => whnf) | (refine optK_of (placeA (by omega)) ?_; conv => whnf) | (refine optK_of (placeB (by omega)) ?_; conv => whnf) | (refine optK_of (placeA' (by omega)) ?_; conv => whnf) | (refine optK_of (placeB' (by omega)) ?_; conv => whnf))
    first | refine ⟨_, _, rfl, Sat.of_eq (agesCode_sat r hr a ha _) (by repeat (first | rfl | exact vfull (by first | (simp [splice]; done) | (simp [splice]; omega)) | exact rfull (by first | (simp [splice]; done) | (simp [splice]; omega)) | exact vplace (by simp; done) (by omega) | exact vrow (by simp; done) (by omega) | exact vtiles (by simp) | exact vsplice (by simp) (by simp) | refine ceq ?_ ?_ | refine Eq.trans (vsplice (by first | (simp; done) | (simp; omega)) (by first | (simp; done) | (simp; omega))) ?_)), ?_⟩ | refine .inl ⟨_, _, rfl, Sat.of_eq (agesCode_sat r hr a ha _) (by repeat (first | rfl | exact vfull (by first | (simp [splice]; done) | (simp [splice]; omega)) | exact rfull (by first | (simp [splice]; done) | (simp [splice]; omega)) | exact vplace (by simp; done) (by omega) | exact vrow (by simp; done) (by omega) | exact vtiles (by simp) | exact vsplice (by simp) (by simp) | refine ceq ?_ ?_ | refine Eq.trans (vsplice (by first | (simp; done) | (simp; omega)) (by first | (simp; done) | (simp; omega))) ?_)), ?_⟩
    conv => whnf
    repeat (first | (refine And.intro (by first  | exact rfl | decide | omega | (simp [splice]; done) | (constructor <;> omega) | (simp [splice]; omega)) ?_; conv => whnf) | (refine optK_of (intA (by omega)) ?_; conv => whnf) | (refine optK_of (intA' (by omega)) ?_; conv => whnf) | (refine optK_of (markIA (by omega)) ?_; conv => whnf) | (refine optK_of (gridN (by omega) (by omega)) ?_; conv => whnf) | (refine optK_of (rowN (by omega)) ?_; conv => whnf) | (refine optK_of (roofN (by omega) (by omega)) ?_; conv => whnf) | (refine optK_of (placeA (by omega)) ?_; conv => whnf) | (refine optK_of (placeB (by omega)) ?_; conv => whnf) | (refine optK_of (placeA' (by omega)) ?_; conv => whnf) | (refine optK_of (placeB' (by omega)) ?_; conv => whnf))
    rw [← hcode _ (by simp [hL])]
    cases h1 : (brkK r a life years == 0)
    · conv => whnf
      repeat (first | (refine And.intro (by first  | exact rfl | decide | omega | (simp [splice]; done) | (constructor <;> omega) | (simp [splice]; omega)) ?_; conv => whnf) | (refine optK_of (intA (by omega)) ?_; conv => whnf) | (refine optK_of (intA' (by omega)) ?_; conv => whnf) | (refine optK_of (markIA (by omega)) ?_; conv => whnf) | (refine optK_of (gridN (by omega) (by omega)) ?_; conv => whnf) | (refine optK_of (rowN (by omega)) ?_; conv => whnf) | (refine optK_of (roofN (by omega) (by omega)) ?_; conv => whnf) | (refine optK_of (placeA (by omega)) ?_; conv => whnf) | (refine optK_of (placeB (by omega)) ?_; conv => whnf) | (refine optK_of (placeA' (by omega)) ?_; conv => whnf) | (refine optK_of (placeB' (by omega)) ?_; conv => whnf))
      first | refine ⟨rfl, _, rfl, ?_⟩ | refine ⟨_, rfl, ?_⟩
      skip
      have h1' : ¬ brkK r a life years = 0 := by simpa using h1
      rw [err h1']; rfl
    have hz : brkK r a life years = 0 := by simpa using h1
    obtain ⟨hb, hold, hl, hy⟩ := brk_facts ha hz
    have hp := oldP_in hb a
    conv => whnf
    repeat (first | (refine And.intro (by first  | exact rfl | decide | omega | (simp [splice]; done) | (constructor <;> omega) | (simp [splice]; omega)) ?_; conv => whnf) | (refine optK_of (intA (by omega)) ?_; conv => whnf) | (refine optK_of (intA' (by omega)) ?_; conv => whnf) | (refine optK_of (markIA (by omega)) ?_; conv => whnf) | (refine optK_of (gridN (by omega) (by omega)) ?_; conv => whnf) | (refine optK_of (rowN (by omega)) ?_; conv => whnf) | (refine optK_of (roofN (by omega) (by omega)) ?_; conv => whnf) | (refine optK_of (placeA (by omega)) ?_; conv => whnf) | (refine optK_of (placeB (by omega)) ?_; conv => whnf) | (refine optK_of (placeA' (by omega)) ?_; conv => whnf) | (refine optK_of (placeB' (by omega)) ?_; conv => whnf))
    first | refine ⟨_, _, rfl, Sat.of_eq (oldest_sat r hr hb a ha) (by repeat (first | rfl | exact vfull (by first | (simp [splice]; done) | (simp [splice]; omega)) | exact rfull (by first | (simp [splice]; done) | (simp [splice]; omega)) | exact vplace (by simp; done) (by omega) | exact vrow (by simp; done) (by omega) | exact vtiles (by simp) | exact vsplice (by simp) (by simp) | refine ceq ?_ ?_ | refine Eq.trans (vsplice (by first | (simp; done) | (simp; omega)) (by first | (simp; done) | (simp; omega))) ?_)), ?_⟩ | refine .inl ⟨_, _, rfl, Sat.of_eq (oldest_sat r hr hb a ha) (by repeat (first | rfl | exact vfull (by first | (simp [splice]; done) | (simp [splice]; omega)) | exact rfull (by first | (simp [splice]; done) | (simp [splice]; omega)) | exact vplace (by simp; done) (by omega) | exact vrow (by simp; done) (by omega) | exact vtiles (by simp) | exact vsplice (by simp) (by simp) | refine ceq ?_ ?_ | refine Eq.trans (vsplice (by first | (simp; done) | (simp; omega)) (by first | (simp; done) | (simp; omega))) ?_)), ?_⟩
    conv => whnf
    repeat (first | (refine And.intro (by first  | exact rfl | decide | omega | (simp [splice]; done) | (constructor <;> omega) | (simp [splice]; omega)) ?_; conv => whnf) | (refine optK_of (intA (by omega)) ?_; conv => whnf) | (refine optK_of (intA' (by omega)) ?_; conv => whnf) | (refine optK_of (markIA (by omega)) ?_; conv => whnf) | (refine optK_of (gridN (by omega) (by omega)) ?_; conv => whnf) | (refine optK_of (rowN (by omega)) ?_; conv => whnf) | (refine optK_of (roofN (by omega) (by omega)) ?_; conv => whnf) | (refine optK_of (placeA (by omega)) ?_; conv => whnf) | (refine optK_of (placeB (by omega)) ?_; conv => whnf) | (refine optK_of (placeA' (by omega)) ?_; conv => whnf) | (refine optK_of (placeB' (by omega)) ?_; conv => whnf))
    first | refine ⟨_, _, rfl, Sat.of_eq (at_sat a ha _ _ hp.1 hp.2) (by repeat (first | rfl | exact vfull (by first | (simp [splice]; done) | (simp [splice]; omega)) | exact rfull (by first | (simp [splice]; done) | (simp [splice]; omega)) | exact vplace (by simp; done) (by omega) | exact vrow (by simp; done) (by omega) | exact vtiles (by simp) | exact vsplice (by simp) (by simp) | refine ceq ?_ ?_ | refine Eq.trans (vsplice (by first | (simp; done) | (simp; omega)) (by first | (simp; done) | (simp; omega))) ?_)), ?_⟩ | refine .inl ⟨_, _, rfl, Sat.of_eq (at_sat a ha _ _ hp.1 hp.2) (by repeat (first | rfl | exact vfull (by first | (simp [splice]; done) | (simp [splice]; omega)) | exact rfull (by first | (simp [splice]; done) | (simp [splice]; omega)) | exact vplace (by simp; done) (by omega) | exact vrow (by simp; done) (by omega) | exact vtiles (by simp) | exact vsplice (by simp) (by simp) | refine ceq ?_ ?_ | refine Eq.trans (vsplice (by first | (simp; done) | (simp; omega)) (by first | (simp; done) | (simp; omega))) ?_)), ?_⟩
    conv => whnf
    repeat (first | (refine And.intro (by first  | exact rfl | decide | omega | (simp [splice]; done) | (constructor <;> omega) | (simp [splice]; omega)) ?_; conv => whnf) | (refine optK_of (intA (by omega)) ?_; conv => whnf) | (refine optK_of (intA' (by omega)) ?_; conv => whnf) | (refine optK_of (markIA (by omega)) ?_; conv => whnf) | (refine optK_of (gridN (by omega) (by omega)) ?_; conv => whnf) | (refine optK_of (rowN (by omega)) ?_; conv => whnf) | (refine optK_of (roofN (by omega) (by omega)) ?_; conv => whnf) | (refine optK_of (placeA (by omega)) ?_; conv => whnf) | (refine optK_of (placeB (by omega)) ?_; conv => whnf) | (refine optK_of (placeA' (by omega)) ?_; conv => whnf) | (refine optK_of (placeB' (by omega)) ?_; conv => whnf))
    cases h2 : decide (a (oldP r a).1 (oldP r a).2 > life)
    · have h2' : ¬ ageP a (oldP r a) > life := by simpa [ageP] using h2
      have hk : visK r a life years = 0 := by unfold visK; rw [if_pos hz, if_neg h2']
      conv => whnf
      repeat (first | (refine And.intro (by first  | exact rfl | decide | omega | (simp [splice]; done) | (constructor <;> omega) | (simp [splice]; omega)) ?_; conv => whnf) | (refine optK_of (intA (by omega)) ?_; conv => whnf) | (refine optK_of (intA' (by omega)) ?_; conv => whnf) | (refine optK_of (markIA (by omega)) ?_; conv => whnf) | (refine optK_of (gridN (by omega) (by omega)) ?_; conv => whnf) | (refine optK_of (rowN (by omega)) ?_; conv => whnf) | (refine optK_of (roofN (by omega) (by omega)) ?_; conv => whnf) | (refine optK_of (placeA (by omega)) ?_; conv => whnf) | (refine optK_of (placeB (by omega)) ?_; conv => whnf) | (refine optK_of (placeA' (by omega)) ?_; conv => whnf) | (refine optK_of (placeB' (by omega)) ?_; conv => whnf))
      first | refine ⟨rfl, _, rfl, ?_⟩ | refine ⟨_, rfl, ?_⟩
      skip
      rw [hk, hz]; rfl
    · have h2' : ageP a (oldP r a) > life := by simpa [ageP] using h2
      have hk : visK r a life years = 6 := by unfold visK; rw [if_pos hz, if_pos h2']
      conv => whnf
      repeat (first | (refine And.intro (by first  | exact rfl | decide | omega | (simp [splice]; done) | (constructor <;> omega) | (simp [splice]; omega)) ?_; conv => whnf) | (refine optK_of (intA (by omega)) ?_; conv => whnf) | (refine optK_of (intA' (by omega)) ?_; conv => whnf) | (refine optK_of (markIA (by omega)) ?_; conv => whnf) | (refine optK_of (gridN (by omega) (by omega)) ?_; conv => whnf) | (refine optK_of (rowN (by omega)) ?_; conv => whnf) | (refine optK_of (roofN (by omega) (by omega)) ?_; conv => whnf) | (refine optK_of (placeA (by omega)) ?_; conv => whnf) | (refine optK_of (placeB (by omega)) ?_; conv => whnf) | (refine optK_of (placeA' (by omega)) ?_; conv => whnf) | (refine optK_of (placeB' (by omega)) ?_; conv => whnf))
      first | refine ⟨rfl, _, rfl, ?_⟩ | refine ⟨_, rfl, ?_⟩
      skip
      rw [hk]; rfl
end Go.Proofs.Ytndlknhakdadjaa
