/- Contracts: marks in lists of places; tiles that are too old; broken roofs; the laws. -/
import Derived.Test.YtndlknhakdadjaaC19
set_option linter.unusedVariables false
set_option linter.unusedSimpArgs false
namespace Go.V
theorem markN {k : Int} {n o : Nat} (h : o < n) : nth (marksC k n) o = some (.int .i8 (IntKind.i8.wrap (k + o))) := by
  unfold marksC; exact nth_tab h
theorem markA {k : Int} {n i : Nat} (h : i < n) : nth (marksC k (2 * n)) ((i : Int).toNat * 2 + 0) = some (.int .i8 (IntKind.i8.wrap (k + 2 * i))) := by
  rw [markN (by omega)]
  congr 3
  omega
theorem markB {k : Int} {n i : Nat} (h : i < n) : nth (marksC k (2 * n)) ((i : Int).toNat * 2 + 1) = some (.int .i8 (IntKind.i8.wrap (k + 2 * i + 1))) := by
  rw [markN (by omega)]
  congr 3
  omega
def marksD (m : Bool) (k : Int) (n : Nat) : D := .row m 2 (.v (.agg ⟨marksC k (2 * n)⟩)) n
def oldT (a : Nat → Nat → Int) (life years : Int) : Nat → Nat → Bool := fun c k => decide (IntKind.i64.wrap (a c k + years) > life)
def oldL (r : Roof) (a : Nat → Nat → Int) (life years : Int) : List Pl := allP r (oldT a life years)
theorem allP_eq (r : Roof) (p : Nat → Nat → Bool) : allP r p = (gridP r.w.toNat r.h.toNat).filter fun q => p q.1 q.2 := by
  unfold allP pick; simp
theorem allP_len {r : Roof} (hb : (1 ≤ r.w ∧ r.w ≤ 8) ∧ (1 ≤ r.h ∧ r.h ≤ 8) ∧ r.s ≤ 1) (p : Nat → Nat → Bool) : (allP r p).length ≤ 64 := by
  rw [allP_eq]
  refine Nat.le_trans (List.length_filter_le _ _) ?_
  rw [gridP_len]
  exact Nat.mul_le_mul (show r.h.toNat ≤ 8 by omega) (show r.w.toNat ≤ 8 by omega)
theorem allP_in {r : Roof} (hb : (1 ≤ r.w ∧ r.w ≤ 8) ∧ (1 ≤ r.h ∧ r.h ≤ 8) ∧ r.s ≤ 1) (p : Nat → Nat → Bool) : AllIn (allP r p) := by
  intro i hi
  have hm : nthP (allP r p) i ∈ allP r p := List.mem_of_getElem? (nthP_some hi)
  generalize nthP (allP r p) i = q at hm ⊢
  rw [allP_eq, List.mem_filter] at hm
  obtain ⟨hm, _⟩ := hm
  unfold gridP rowP at hm
  simp only [List.mem_flatMap, List.mem_range, List.mem_map] at hm
  obtain ⟨x, hx, j, hj, rfl⟩ := hm
  constructor <;> simp only <;> omega
/-- The ones of the first i that are as told. -/
def selP (p : Nat → Nat → Bool) (ps : List Pl) (i : Nat) : List Pl := (ps.take i).filter fun q => p q.1 q.2
theorem selP_zero (p : Nat → Nat → Bool) (ps : List Pl) : selP p ps 0 = [] := by simp [selP]
theorem selP_all (p : Nat → Nat → Bool) (ps : List Pl) : selP p ps ps.length = ps.filter fun q => p q.1 q.2 := by simp [selP]
theorem take_next {ps : List Pl} {i : Nat} (h : i < ps.length) : ps.take (i + 1) = ps.take i ++ [nthP ps i] := by
  rw [List.take_add_one, nthP_some h]; rfl
theorem selP_yes {p : Nat → Nat → Bool} {ps : List Pl} {i : Nat} (h : i < ps.length) (hp : p (nthP ps i).1 (nthP ps i).2 = true) : selP p ps (i + 1) = selP p ps i ++ [nthP ps i] := by
  unfold selP
  rw [take_next h, List.filter_append]
  simp [hp]
theorem selP_no {p : Nat → Nat → Bool} {ps : List Pl} {i : Nat} (h : i < ps.length) (hp : p (nthP ps i).1 (nthP ps i).2 = false) : selP p ps (i + 1) = selP p ps i := by
  unfold selP
  rw [take_next h, List.filter_append]
  simp [hp]
theorem selP_len (p : Nat → Nat → Bool) (ps : List Pl) (i : Nat) : (selP p ps i).length ≤ ps.length := by
  unfold selP
  refine Nat.le_trans (List.length_filter_le _ _) ?_
  simp; omega
def tooL (r : Roof) (a : Nat → Nat → Int) (life : Int) : List Pl := if askC r a (lifeOk life) = 0 then oldL r a life 0 else []
end Go.V
namespace Go.Proofs.Ytndlknhakdadjaa
open Go.V
theorem markPlaceS_satM (xs : List Value) (n : Nat) (hx : xs.length = n * 2) (hn : n ≤ 4096) (k : Int) (hk : 0 ≤ k ∧ k ≤ 1048576) :
    SatM Try.prog 43 [.slc true 2 (lentId 0) 0 n, .v (.int .i64 k)] [.v (.agg ⟨xs⟩)] (.v (.int .i64 (k + 2 * n))) [some (.v (.agg ⟨marksC k (2 * n)⟩))] [] := by
  refine satM_of_wp hMix tOk Try.func43 rfl rfl Try.ntmps43 rfl rfl Try.results43 (by kernel_rfl) ?_
  conv => whnf
  repeat (first | (refine And.intro (by first  | exact rfl | decide | omega | (simp [splice]; done) | (constructor <;> omega) | (simp [splice]; omega)) ?_; conv => whnf) | (refine optK_of (gridN (by omega) (by omega)) ?_; conv => whnf) | (refine optK_of (rowN (by omega)) ?_; conv => whnf) | (refine optK_of (roofN (by omega) (by omega)) ?_; conv => whnf) | (refine optK_of (placeA (by omega)) ?_; conv => whnf) | (refine optK_of (placeB (by omega)) ?_; conv => whnf) | (refine optK_of (placeA' (by omega)) ?_; conv => whnf) | (refine optK_of (placeB' (by omega)) ?_; conv => whnf) | (refine optK_of (markA (by omega)) ?_; conv => whnf) | (refine optK_of (markB (by omega)) ?_; conv => whnf))
  refine loop_rule (α := Nat) (fun i => [(0, .slc true 2 (lentId 0) 0 n), (1, .v (.int .i64 (k + 2 * i))), (5, .v (.int .i64 i))]) (fun i => [(lentId 0, .v (.agg ⟨markedC k (2 * i) xs⟩))]) (fun i => i ≤ n) (fun i => n - i) (0) ?_ (sim_of (rn := []) rfl ?_ ?_) ?_
  · first | omega | (dsimp only; omega) | ((repeat' apply And.intro) <;> omega) | (dsimp only; (repeat' apply And.intro) <;> omega) | trivial
  · ((repeat' (first | exact trivial | apply And.intro)) <;> (first | rfl | exact succ8 (by omega) | exact succ64 (by omega) | exact CapOk.fn (by assumption) _ _ | exact vintS (by omega) | exact vintS (by rw [w64 (by omega) (by omega)]; omega) | exact vintS (by rw [w8 (by omega) (by omega)]; omega) | exact vslcS (by omega) | exact vslcS (by simp)))
  · ((repeat' (first | exact trivial | apply And.intro)) <;> (refine ⟨_, _, rfl, rfl, ?_⟩; first | rfl | (rw [Nat.mul_zero, markedC_zero]; rfl)))
  intro i hi
  have hl : (markedC k (2 * i) xs).length = xs.length := markedC_len (by omega)
  conv => whnf
  repeat (first | (refine And.intro (by first  | exact rfl | decide | omega | (simp [splice]; done) | (constructor <;> omega) | (simp [splice]; omega)) ?_; conv => whnf) | (refine optK_of (gridN (by omega) (by omega)) ?_; conv => whnf) | (refine optK_of (rowN (by omega)) ?_; conv => whnf) | (refine optK_of (roofN (by omega) (by omega)) ?_; conv => whnf) | (refine optK_of (placeA (by omega)) ?_; conv => whnf) | (refine optK_of (placeB (by omega)) ?_; conv => whnf) | (refine optK_of (placeA' (by omega)) ?_; conv => whnf) | (refine optK_of (placeB' (by omega)) ?_; conv => whnf) | (refine optK_of (markA (by omega)) ?_; conv => whnf) | (refine optK_of (markB (by omega)) ?_; conv => whnf))
  cases h : decide ((i : Int) < (n : Int))
  · have hin : i = n := by simp at h; omega
    subst hin
    conv => whnf
    repeat (first | (refine And.intro (by first  | exact rfl | decide | omega | (simp [splice]; done) | (constructor <;> omega) | (simp [splice]; omega)) ?_; conv => whnf) | (refine optK_of (gridN (by omega) (by omega)) ?_; conv => whnf) | (refine optK_of (rowN (by omega)) ?_; conv => whnf) | (refine optK_of (roofN (by omega) (by omega)) ?_; conv => whnf) | (refine optK_of (placeA (by omega)) ?_; conv => whnf) | (refine optK_of (placeB (by omega)) ?_; conv => whnf) | (refine optK_of (placeA' (by omega)) ?_; conv => whnf) | (refine optK_of (placeB' (by omega)) ?_; conv => whnf) | (refine optK_of (markA (by omega)) ?_; conv => whnf) | (refine optK_of (markB (by omega)) ?_; conv => whnf))
    have e : markedC k (2 * i) xs = marksC k (2 * i) := by
      have := markedC_all k xs
      rw [hx] at this
      rw [Nat.mul_comm]; exact this
    refine ⟨[], _, rfl, rfl, rfl, ?_, ?_, rfl⟩
    · rfl
    ((repeat' (first | exact trivial | apply And.intro)) <;> (refine ⟨_, rfl, ?_⟩; first | rfl | (exact cset e)))
  have hin : i < n := by simpa using h
  conv => whnf
  repeat (first | (refine And.intro (by first  | exact rfl | decide | omega | (simp [splice]; done) | (constructor <;> omega) | (simp [splice]; omega)) ?_; conv => whnf) | (refine optK_of (gridN (by omega) (by omega)) ?_; conv => whnf) | (refine optK_of (rowN (by omega)) ?_; conv => whnf) | (refine optK_of (roofN (by omega) (by omega)) ?_; conv => whnf) | (refine optK_of (placeA (by omega)) ?_; conv => whnf) | (refine optK_of (placeB (by omega)) ?_; conv => whnf) | (refine optK_of (placeA' (by omega)) ?_; conv => whnf) | (refine optK_of (placeB' (by omega)) ?_; conv => whnf) | (refine optK_of (markA (by omega)) ?_; conv => whnf) | (refine optK_of (markB (by omega)) ?_; conv => whnf))
  have setM : ((markedC k (2 * i) xs).set (0 + (i : Int).toNat * 2 + 0) (.int .i8 (IntKind.i8.wrap (k + 2 * i)))).set (0 + (i : Int).toNat * 2 + 1) (.int .i8 (IntKind.i8.wrap (IntKind.i64.wrap (k + 2 * i + 1)))) = markedC k (2 * (i + 1)) xs := by
    rw [w64 (by omega) (by omega)]
    have h1 := markedC_set (k := k) (n := 2 * i) (ys := xs) (by omega)
    have h2 := markedC_set (k := k) (n := 2 * i + 1) (ys := xs) (by omega)
    rw [show 0 + (i : Int).toNat * 2 + 0 = 2 * i by omega, show 0 + (i : Int).toNat * 2 + 1 = 2 * i + 1 by omega]
    rw [show k + 2 * (i : Int) = k + ((2 * i : Nat) : Int) by omega, h1, show k + ((2 * i : Nat) : Int) + 1 = k + ((2 * i + 1 : Nat) : Int) by omega, h2]
    rfl
  have ek : IntKind.i64.wrap (IntKind.i64.wrap (k + 2 * i + 1) + 1) = k + 2 * ((i + 1 : Nat) : Int) := by
    rw [w64 (n := k + 2 * i + 1) (by omega) (by omega), w64 (by omega) (by omega)]; omega
  rw [ek]
  refine ⟨i + 1, ?_, ?_, sim_of (rn := []) rfl ?_ ?_⟩
  · (dsimp only; omega)
  · first | omega | (dsimp only; omega) | ((repeat' apply And.intro) <;> omega) | (dsimp only; (repeat' apply And.intro) <;> omega) | trivial
  · ((repeat' (first | exact trivial | apply And.intro)) <;> (first | rfl | exact succ8 (by omega) | exact succ64 (by omega) | exact CapOk.fn (by assumption) _ _ | exact vintS (by omega) | exact vintS (by rw [w64 (by omega) (by omega)]; omega) | exact vintS (by rw [w8 (by omega) (by omega)]; omega) | exact vslcS (by omega) | exact vslcS (by simp)))
  · ((repeat' (first | exact trivial | apply And.intro)) <;> (refine ⟨_, _, rfl, rfl, ?_⟩; first | rfl | (exact cset setM)))
theorem heldPlaceS_sat (n : Nat) (hn : n ≤ 4096) (k : Int) (hk : 0 ≤ k ∧ k ≤ 1048576) (m : Bool) :
    Sat Try.prog 44 [marksD m k n, .v (.int .i64 k)] (.v (.int .i64 (k + 2 * n))) := by
  refine sat_of_wp hMix tOk Try.func44 rfl rfl Try.ntmps44 rfl rfl Try.results44 (by kernel_rfl) ?_
  conv => whnf
  repeat (first | (refine And.intro (by first  | exact rfl | decide | omega | (simp [splice]; done) | (constructor <;> omega) | (simp [splice]; omega)) ?_; conv => whnf) | (refine optK_of (gridN (by omega) (by omega)) ?_; conv => whnf) | (refine optK_of (rowN (by omega)) ?_; conv => whnf) | (refine optK_of (roofN (by omega) (by omega)) ?_; conv => whnf) | (refine optK_of (placeA (by omega)) ?_; conv => whnf) | (refine optK_of (placeB (by omega)) ?_; conv => whnf) | (refine optK_of (placeA' (by omega)) ?_; conv => whnf) | (refine optK_of (placeB' (by omega)) ?_; conv => whnf) | (refine optK_of (markA (by omega)) ?_; conv => whnf) | (refine optK_of (markB (by omega)) ?_; conv => whnf))
  refine loop_rule (α := Nat) (fun i => [(0, marksD m k n), (1, .v (.int .i64 (k + 2 * i))), (5, .v (.int .i64 i))]) (fun i => []) (fun i => i ≤ n) (fun i => n - i) (0) ?_ (sim_of (rn := []) rfl ?_ ?_) ?_
  · first | omega | (dsimp only; omega) | ((repeat' apply And.intro) <;> omega) | (dsimp only; (repeat' apply And.intro) <;> omega) | trivial
  · ((repeat' (first | exact trivial | apply And.intro)) <;> (first | rfl | exact succ8 (by omega) | exact succ64 (by omega) | exact CapOk.fn (by assumption) _ _ | exact vintS (by omega) | exact vintS (by rw [w64 (by omega) (by omega)]; omega) | exact vintS (by rw [w8 (by omega) (by omega)]; omega) | exact vslcS (by omega) | exact vslcS (by simp)))
  · ((repeat' (first | exact trivial | apply And.intro)) <;> (refine ⟨_, _, rfl, rfl, ?_⟩; first | rfl | (rfl)))
  intro i hi
  conv => whnf
  repeat (first | (refine And.intro (by first  | exact rfl | decide | omega | (simp [splice]; done) | (constructor <;> omega) | (simp [splice]; omega)) ?_; conv => whnf) | (refine optK_of (gridN (by omega) (by omega)) ?_; conv => whnf) | (refine optK_of (rowN (by omega)) ?_; conv => whnf) | (refine optK_of (roofN (by omega) (by omega)) ?_; conv => whnf) | (refine optK_of (placeA (by omega)) ?_; conv => whnf) | (refine optK_of (placeB (by omega)) ?_; conv => whnf) | (refine optK_of (placeA' (by omega)) ?_; conv => whnf) | (refine optK_of (placeB' (by omega)) ?_; conv => whnf) | (refine optK_of (markA (by omega)) ?_; conv => whnf) | (refine optK_of (markB (by omega)) ?_; conv => whnf))
  cases h : decide ((i : Int) < (n : Int))
  · have hin : i = n := by simp at h; omega
    subst hin
    conv => whnf
    repeat (first | (refine And.intro (by first  | exact rfl | decide | omega | (simp [splice]; done) | (constructor <;> omega) | (simp [splice]; omega)) ?_; conv => whnf) | (refine optK_of (gridN (by omega) (by omega)) ?_; conv => whnf) | (refine optK_of (rowN (by omega)) ?_; conv => whnf) | (refine optK_of (roofN (by omega) (by omega)) ?_; conv => whnf) | (refine optK_of (placeA (by omega)) ?_; conv => whnf) | (refine optK_of (placeB (by omega)) ?_; conv => whnf) | (refine optK_of (placeA' (by omega)) ?_; conv => whnf) | (refine optK_of (placeB' (by omega)) ?_; conv => whnf) | (refine optK_of (markA (by omega)) ?_; conv => whnf) | (refine optK_of (markB (by omega)) ?_; conv => whnf))
    first | refine ⟨rfl, _, rfl, ?_⟩ | refine ⟨_, rfl, ?_⟩
    rfl
  have hin : i < n := by simpa using h
  conv => whnf
  repeat (first | (refine And.intro (by first  | exact rfl | decide | omega | (simp [splice]; done) | (constructor <;> omega) | (simp [splice]; omega)) ?_; conv => whnf) | (refine optK_of (gridN (by omega) (by omega)) ?_; conv => whnf) | (refine optK_of (rowN (by omega)) ?_; conv => whnf) | (refine optK_of (roofN (by omega) (by omega)) ?_; conv => whnf) | (refine optK_of (placeA (by omega)) ?_; conv => whnf) | (refine optK_of (placeB (by omega)) ?_; conv => whnf) | (refine optK_of (placeA' (by omega)) ?_; conv => whnf) | (refine optK_of (placeB' (by omega)) ?_; conv => whnf) | (refine optK_of (markA (by omega)) ?_; conv => whnf) | (refine optK_of (markB (by omega)) ?_; conv => whnf))
  rw [show (IntKind.i8.wrap (k + 2 * (i : Int)) != IntKind.i8.wrap (k + 2 * (i : Int))) = false by simp]
  conv => whnf
  repeat (first | (refine And.intro (by first  | exact rfl | decide | omega | (simp [splice]; done) | (constructor <;> omega) | (simp [splice]; omega)) ?_; conv => whnf) | (refine optK_of (gridN (by omega) (by omega)) ?_; conv => whnf) | (refine optK_of (rowN (by omega)) ?_; conv => whnf) | (refine optK_of (roofN (by omega) (by omega)) ?_; conv => whnf) | (refine optK_of (placeA (by omega)) ?_; conv => whnf) | (refine optK_of (placeB (by omega)) ?_; conv => whnf) | (refine optK_of (placeA' (by omega)) ?_; conv => whnf) | (refine optK_of (placeB' (by omega)) ?_; conv => whnf) | (refine optK_of (markA (by omega)) ?_; conv => whnf) | (refine optK_of (markB (by omega)) ?_; conv => whnf))
  have e1 : IntKind.i64.wrap (k + 2 * (i : Int) + 1) = k + 2 * (i : Int) + 1 := w64 (by omega) (by omega)
  rw [e1, show (IntKind.i8.wrap (k + 2 * (i : Int) + 1) != IntKind.i8.wrap (k + 2 * (i : Int) + 1)) = false by simp]
  conv => whnf
  repeat (first | (refine And.intro (by first  | exact rfl | decide | omega | (simp [splice]; done) | (constructor <;> omega) | (simp [splice]; omega)) ?_; conv => whnf) | (refine optK_of (gridN (by omega) (by omega)) ?_; conv => whnf) | (refine optK_of (rowN (by omega)) ?_; conv => whnf) | (refine optK_of (roofN (by omega) (by omega)) ?_; conv => whnf) | (refine optK_of (placeA (by omega)) ?_; conv => whnf) | (refine optK_of (placeB (by omega)) ?_; conv => whnf) | (refine optK_of (placeA' (by omega)) ?_; conv => whnf) | (refine optK_of (placeB' (by omega)) ?_; conv => whnf) | (refine optK_of (markA (by omega)) ?_; conv => whnf) | (refine optK_of (markB (by omega)) ?_; conv => whnf))
  refine ⟨i + 1, ?_, ?_, sim_of (rn := []) rfl ?_ ?_⟩
  · (dsimp only; omega)
  · first | omega | (dsimp only; omega) | ((repeat' apply And.intro) <;> omega) | (dsimp only; (repeat' apply And.intro) <;> omega) | trivial
  · ((repeat' (first | exact trivial | apply And.intro)) <;> (first | rfl | exact succ8 (by omega) | exact succ64 (by omega) | exact CapOk.fn (by assumption) _ _ | exact vintS (by omega) | exact vintS (by rw [w64 (by omega) (by omega)]; omega) | exact vintS (by rw [w8 (by omega) (by omega)]; omega) | exact vslcS (by omega) | exact vslcS (by simp)))
  · ((repeat' (first | exact trivial | apply And.intro)) <;> (refine ⟨_, _, rfl, rfl, ?_⟩; first | rfl | (rfl)))
theorem eqPlaceS_same (ps : List Pl) (hl : ps.length ≤ 4096) (m m' : Bool) : Sat Try.prog 42 [placesD m ps, placesD m' ps] (.v (.bool true)) := by
  refine sat_of_wp hMix tOk Try.func42 rfl rfl Try.ntmps42 rfl rfl Try.results42 (by kernel_rfl) ?_
  conv => whnf
  repeat (first | (refine And.intro (by first  | exact rfl | decide | omega | (simp [splice]; done) | (constructor <;> omega) | (simp [splice]; omega)) ?_; conv => whnf) | (refine optK_of (gridN (by omega) (by omega)) ?_; conv => whnf) | (refine optK_of (rowN (by omega)) ?_; conv => whnf) | (refine optK_of (roofN (by omega) (by omega)) ?_; conv => whnf) | (refine optK_of (placeA (by omega)) ?_; conv => whnf) | (refine optK_of (placeB (by omega)) ?_; conv => whnf) | (refine optK_of (placeA' (by omega)) ?_; conv => whnf) | (refine optK_of (placeB' (by omega)) ?_; conv => whnf) | (refine optK_of (markA (by omega)) ?_; conv => whnf) | (refine optK_of (markB (by omega)) ?_; conv => whnf))
  rw [show ((ps.length : Int) != (ps.length : Int)) = false by simp]
  conv => whnf
  repeat (first | (refine And.intro (by first  | exact rfl | decide | omega | (simp [splice]; done) | (constructor <;> omega) | (simp [splice]; omega)) ?_; conv => whnf) | (refine optK_of (gridN (by omega) (by omega)) ?_; conv => whnf) | (refine optK_of (rowN (by omega)) ?_; conv => whnf) | (refine optK_of (roofN (by omega) (by omega)) ?_; conv => whnf) | (refine optK_of (placeA (by omega)) ?_; conv => whnf) | (refine optK_of (placeB (by omega)) ?_; conv => whnf) | (refine optK_of (placeA' (by omega)) ?_; conv => whnf) | (refine optK_of (placeB' (by omega)) ?_; conv => whnf) | (refine optK_of (markA (by omega)) ?_; conv => whnf) | (refine optK_of (markB (by omega)) ?_; conv => whnf))
  refine loop_rule (α := Nat) (fun i => [(0, placesD m ps), (1, placesD m' ps), (5, .v (.int .i64 i))]) (fun i => []) (fun i => i ≤ ps.length) (fun i => ps.length - i) (0) ?_ (sim_of (rn := []) rfl ?_ ?_) ?_
  · first | omega | (dsimp only; omega) | ((repeat' apply And.intro) <;> omega) | (dsimp only; (repeat' apply And.intro) <;> omega) | trivial
  · ((repeat' (first | exact trivial | apply And.intro)) <;> (first | rfl | exact succ8 (by omega) | exact succ64 (by omega) | exact CapOk.fn (by assumption) _ _ | exact vintS (by omega) | exact vintS (by rw [w64 (by omega) (by omega)]; omega) | exact vintS (by rw [w8 (by omega) (by omega)]; omega) | exact vslcS (by omega) | exact vslcS (by simp)))
  · ((repeat' (first | exact trivial | apply And.intro)) <;> (refine ⟨_, _, rfl, rfl, ?_⟩; first | rfl | (rfl)))
  intro i hi
  conv => whnf
  repeat (first | (refine And.intro (by first  | exact rfl | decide | omega | (simp [splice]; done) | (constructor <;> omega) | (simp [splice]; omega)) ?_; conv => whnf) | (refine optK_of (gridN (by omega) (by omega)) ?_; conv => whnf) | (refine optK_of (rowN (by omega)) ?_; conv => whnf) | (refine optK_of (roofN (by omega) (by omega)) ?_; conv => whnf) | (refine optK_of (placeA (by omega)) ?_; conv => whnf) | (refine optK_of (placeB (by omega)) ?_; conv => whnf) | (refine optK_of (placeA' (by omega)) ?_; conv => whnf) | (refine optK_of (placeB' (by omega)) ?_; conv => whnf) | (refine optK_of (markA (by omega)) ?_; conv => whnf) | (refine optK_of (markB (by omega)) ?_; conv => whnf))
  cases h : decide ((i : Int) < (ps.length : Int))
  · conv => whnf
    repeat (first | (refine And.intro (by first  | exact rfl | decide | omega | (simp [splice]; done) | (constructor <;> omega) | (simp [splice]; omega)) ?_; conv => whnf) | (refine optK_of (gridN (by omega) (by omega)) ?_; conv => whnf) | (refine optK_of (rowN (by omega)) ?_; conv => whnf) | (refine optK_of (roofN (by omega) (by omega)) ?_; conv => whnf) | (refine optK_of (placeA (by omega)) ?_; conv => whnf) | (refine optK_of (placeB (by omega)) ?_; conv => whnf) | (refine optK_of (placeA' (by omega)) ?_; conv => whnf) | (refine optK_of (placeB' (by omega)) ?_; conv => whnf) | (refine optK_of (markA (by omega)) ?_; conv => whnf) | (refine optK_of (markB (by omega)) ?_; conv => whnf))
    first | refine ⟨rfl, _, rfl, ?_⟩ | refine ⟨_, rfl, ?_⟩
    rfl
  have hin : i < ps.length := by simpa using h
  conv => whnf
  repeat (first | (refine And.intro (by first  | exact rfl | decide | omega | (simp [splice]; done) | (constructor <;> omega) | (simp [splice]; omega)) ?_; conv => whnf) | (refine optK_of (gridN (by omega) (by omega)) ?_; conv => whnf) | (refine optK_of (rowN (by omega)) ?_; conv => whnf) | (refine optK_of (roofN (by omega) (by omega)) ?_; conv => whnf) | (refine optK_of (placeA (by omega)) ?_; conv => whnf) | (refine optK_of (placeB (by omega)) ?_; conv => whnf) | (refine optK_of (placeA' (by omega)) ?_; conv => whnf) | (refine optK_of (placeB' (by omega)) ?_; conv => whnf) | (refine optK_of (markA (by omega)) ?_; conv => whnf) | (refine optK_of (markB (by omega)) ?_; conv => whnf))
  first | refine ⟨_, _, rfl, Sat.of_eq (eqPlace_same (nthP ps i)) (by repeat (first | rfl | exact vfull (by first | (simp [splice]; done) | (simp [splice]; omega)) | exact rfull (by first | (simp [splice]; done) | (simp [splice]; omega)) | exact vplace (by simp; done) (by omega) | exact vrow (by simp; done) (by omega) | exact vtiles (by simp) | exact vsplice (by simp) (by simp) | refine ceq ?_ ?_ | refine Eq.trans (vsplice (by first | (simp; done) | (simp; omega)) (by first | (simp; done) | (simp; omega))) ?_)), ?_⟩ | refine .inl ⟨_, _, rfl, Sat.of_eq (eqPlace_same (nthP ps i)) (by repeat (first | rfl | exact vfull (by first | (simp [splice]; done) | (simp [splice]; omega)) | exact rfull (by first | (simp [splice]; done) | (simp [splice]; omega)) | exact vplace (by simp; done) (by omega) | exact vrow (by simp; done) (by omega) | exact vtiles (by simp) | exact vsplice (by simp) (by simp) | refine ceq ?_ ?_ | refine Eq.trans (vsplice (by first | (simp; done) | (simp; omega)) (by first | (simp; done) | (simp; omega))) ?_)), ?_⟩
  conv => whnf
  repeat (first | (refine And.intro (by first  | exact rfl | decide | omega | (simp [splice]; done) | (constructor <;> omega) | (simp [splice]; omega)) ?_; conv => whnf) | (refine optK_of (gridN (by omega) (by omega)) ?_; conv => whnf) | (refine optK_of (rowN (by omega)) ?_; conv => whnf) | (refine optK_of (roofN (by omega) (by omega)) ?_; conv => whnf) | (refine optK_of (placeA (by omega)) ?_; conv => whnf) | (refine optK_of (placeB (by omega)) ?_; conv => whnf) | (refine optK_of (placeA' (by omega)) ?_; conv => whnf) | (refine optK_of (placeB' (by omega)) ?_; conv => whnf) | (refine optK_of (markA (by omega)) ?_; conv => whnf) | (refine optK_of (markB (by omega)) ?_; conv => whnf))
  refine ⟨i + 1, ?_, ?_, sim_of (rn := []) rfl ?_ ?_⟩
  · (dsimp only; omega)
  · first | omega | (dsimp only; omega) | ((repeat' apply And.intro) <;> omega) | (dsimp only; (repeat' apply And.intro) <;> omega) | trivial
  · ((repeat' (first | exact trivial | apply And.intro)) <;> (first | rfl | exact succ8 (by omega) | exact succ64 (by omega) | exact CapOk.fn (by assumption) _ _ | exact vintS (by omega) | exact vintS (by rw [w64 (by omega) (by omega)]; omega) | exact vintS (by rw [w8 (by omega) (by omega)]; omega) | exact vslcS (by omega) | exact vslcS (by simp)))
  · ((repeat' (first | exact trivial | apply And.intro)) <;> (refine ⟨_, _, rfl, rfl, ?_⟩; first | rfl | (rfl)))
theorem tooL_len (r : Roof) (a : Nat → Nat → Int) (life : Int) : (tooL r a life).length ≤ 64 := by
  unfold tooL
  split
  · rename_i h
    obtain ⟨hA, hL⟩ := askC_ok h
    exact allP_len (okA_bounds hA) _
  · simp
end Go.Proofs.Ytndlknhakdadjaa
