import Derived.Test.YtecjkbgepbefcaaP5
set_option linter.unusedVariables false
set_option linter.unusedSimpArgs false
/- Contracts: what the laws ask of lists, of places and of roofs. -/
set_option linter.unusedVariables false
set_option linter.unusedSimpArgs false
namespace Go.V
def atV (xs : List Int) (i : Nat) (n : Int) : Int := if xs.length ≤ i then 0 else (ix xs i).tmod n
theorem atV_in {xs : List Int} (h : Bytes xs) (i : Nat) {n : Int} (hn : 1 ≤ n) : 0 ≤ atV xs i n ∧ atV xs i n < n := by
  unfold atV
  split
  · omega
  · have := h i (by omega)
    have e : (ix xs i).tmod n = ix xs i % n := Int.tmod_eq_emod_of_nonneg this.1
    rw [e]
    exact ⟨Int.emod_nonneg _ (by omega), Int.emod_lt_of_pos _ (by omega)⟩
theorem eqPl_iff {q q' : Pl} (h : q.1 < 8 ∧ q.2 < 8) (h' : q'.1 < 8 ∧ q'.2 < 8) : decide (q = q') = true ↔ [Value.int .i8 q.1, Value.int .i8 q.2] = [Value.int .i8 q'.1, Value.int .i8 q'.2] := by
  rw [decide_eq_true_iff, Prod.ext_iff]
  simp only [List.cons.injEq, Value.int.injEq, true_and, and_true]
  omega
end Go.V
namespace Go.Proofs.Ytecjkbgepbefcaa
open Go.V
theorem a2Long_sat (xs ys : List Int) (m m' : Bool) : Sat Try.prog 5 [u8D m xs, u8D m' ys] (.v (.bool (decide ((xs.length : Int) > 3000) || decide ((ys.length : Int) > 3000)))) := by
  refine sat_of_wp hMix tOk Try.func5 rfl rfl Try.ntmps5 rfl rfl Try.results5 (by kernel_rfl) ?_
  conv => whnf
  repeat (first | (refine And.intro (by first | exact Nat.le_of_ble_eq_true rfl | exact trivial | exact rfl | decide | omega | (simp [splice]; done) | (constructor <;> omega) | (simp [splice]; omega)) ?_; conv => whnf) | (refine optK_of (u8A (by omega)) ?_; conv => whnf) | (refine optK_of (u8A' (by omega)) ?_; conv => whnf) | (refine optK_of (intA (by omega)) ?_; conv => whnf) | (refine optK_of (intA' (by omega)) ?_; conv => whnf))
  cases h : decide ((xs.length : Int) > 3000)
  · conv => whnf
    repeat (first | (refine And.intro (by first | exact Nat.le_of_ble_eq_true rfl | exact trivial | exact rfl | decide | omega | (simp [splice]; done) | (constructor <;> omega) | (simp [splice]; omega)) ?_; conv => whnf) | (refine optK_of (u8A (by omega)) ?_; conv => whnf) | (refine optK_of (u8A' (by omega)) ?_; conv => whnf) | (refine optK_of (intA (by omega)) ?_; conv => whnf) | (refine optK_of (intA' (by omega)) ?_; conv => whnf))
    first | refine ⟨rfl, _, rfl, ?_⟩ | refine ⟨_, rfl, ?_⟩
    rfl
  · conv => whnf
    repeat (first | (refine And.intro (by first | exact Nat.le_of_ble_eq_true rfl | exact trivial | exact rfl | decide | omega | (simp [splice]; done) | (constructor <;> omega) | (simp [splice]; omega)) ?_; conv => whnf) | (refine optK_of (u8A (by omega)) ?_; conv => whnf) | (refine optK_of (u8A' (by omega)) ?_; conv => whnf) | (refine optK_of (intA (by omega)) ?_; conv => whnf) | (refine optK_of (intA' (by omega)) ?_; conv => whnf))
    first | refine ⟨rfl, _, rfl, ?_⟩ | refine ⟨_, rfl, ?_⟩
    rfl
theorem a2At_sat (xs : List Int) (hx : Bytes xs) (hl : xs.length ≤ 3000) (i : Nat) (hi : i ≤ 10) (n : Int) (hn : 1 ≤ n ∧ n ≤ 1000) (m : Bool) : Sat Try.prog 8 [u8D m xs, .v (.int .i64 i), .v (.int .i64 n)] (.v (.int .i64 (atV xs i n))) := by
  have hne : n ≠ 0 := by omega
  refine sat_of_wp hMix tOk Try.func8 rfl rfl Try.ntmps8 rfl rfl Try.results8 (by kernel_rfl) ?_
  conv => whnf
  repeat (first | (refine And.intro (by first | exact Nat.le_of_ble_eq_true rfl | exact trivial | exact rfl | decide | omega | (simp [splice]; done) | (constructor <;> omega) | (simp [splice]; omega)) ?_; conv => whnf) | (refine optK_of (u8A (by omega)) ?_; conv => whnf) | (refine optK_of (u8A' (by omega)) ?_; conv => whnf) | (refine optK_of (intA (by omega)) ?_; conv => whnf) | (refine optK_of (intA' (by omega)) ?_; conv => whnf))
  cases h : decide ((i : Int) ≥ (xs.length : Int))
  case true =>
    have h' : xs.length ≤ i := by simp at h; omega
    rw [show atV xs i n = 0 by unfold atV; rw [if_pos h']]
    conv => whnf
    repeat (first | (refine And.intro (by first | exact Nat.le_of_ble_eq_true rfl | exact trivial | exact rfl | decide | omega | (simp [splice]; done) | (constructor <;> omega) | (simp [splice]; omega)) ?_; conv => whnf) | (refine optK_of (u8A (by omega)) ?_; conv => whnf) | (refine optK_of (u8A' (by omega)) ?_; conv => whnf) | (refine optK_of (intA (by omega)) ?_; conv => whnf) | (refine optK_of (intA' (by omega)) ?_; conv => whnf))
    first | refine ⟨rfl, _, rfl, ?_⟩ | refine ⟨_, rfl, ?_⟩
    rfl
  have h' : ¬ xs.length ≤ i := by simp at h; omega
  have hb := hx i (by omega)
  rw [show atV xs i n = (ix xs i).tmod n by unfold atV; rw [if_neg h']]
  conv => whnf
  repeat (first | (refine And.intro (by first | exact Nat.le_of_ble_eq_true rfl | exact trivial | exact rfl | decide | omega | (simp [splice]; done) | (constructor <;> omega) | (simp [splice]; omega)) ?_; conv => whnf) | (refine optK_of (u8A (by omega)) ?_; conv => whnf) | (refine optK_of (u8A' (by omega)) ?_; conv => whnf) | (refine optK_of (intA (by omega)) ?_; conv => whnf) | (refine optK_of (intA' (by omega)) ?_; conv => whnf))
  rw [show decide (n < 1) = false by simp; omega]
  conv => whnf
  repeat (first | (refine And.intro (by first | exact Nat.le_of_ble_eq_true rfl | exact trivial | exact rfl | decide | omega | (simp [splice]; done) | (constructor <;> omega) | (simp [splice]; omega)) ?_; conv => whnf) | (refine optK_of (u8A (by omega)) ?_; conv => whnf) | (refine optK_of (u8A' (by omega)) ?_; conv => whnf) | (refine optK_of (intA (by omega)) ?_; conv => whnf) | (refine optK_of (intA' (by omega)) ?_; conv => whnf))
  rw [show IntKind.i64.wrap (ix xs i) = ix xs i from w64 (by omega) (by omega)]
  conv => whnf
  repeat (first | (refine And.intro (by first | exact Nat.le_of_ble_eq_true rfl | exact trivial | exact rfl | decide | omega | (simp [splice]; done) | (constructor <;> omega) | (simp [splice]; omega)) ?_; conv => whnf) | (refine optK_of (u8A (by omega)) ?_; conv => whnf) | (refine optK_of (u8A' (by omega)) ?_; conv => whnf) | (refine optK_of (intA (by omega)) ?_; conv => whnf) | (refine optK_of (intA' (by omega)) ?_; conv => whnf))
  have hq : (ix xs i).tmod n = ix xs i % n := Int.tmod_eq_emod_of_nonneg hb.1
  first | refine ⟨rfl, _, rfl, ?_⟩ | refine ⟨_, rfl, ?_⟩
  rfl
theorem l00Same_sat (xs : List Int) (hl : xs.length ≤ 1048576) (m m' : Bool) : Sat Try.prog 66 [intsD m xs, intsD m' xs] (.v (.bool true)) := by
  refine sat_of_wp hMix tOk Try.func66 rfl rfl Try.ntmps66 rfl rfl Try.results66 (by kernel_rfl) ?_
  conv => whnf
  repeat (first | (refine And.intro (by first | exact Nat.le_of_ble_eq_true rfl | exact trivial | exact rfl | decide | omega | (simp [splice]; done) | (constructor <;> omega) | (simp [splice]; omega)) ?_; conv => whnf) | (refine optK_of (u8A (by omega)) ?_; conv => whnf) | (refine optK_of (u8A' (by omega)) ?_; conv => whnf) | (refine optK_of (intA (by omega)) ?_; conv => whnf) | (refine optK_of (intA' (by omega)) ?_; conv => whnf))
  rw [show ((xs.length : Int) != (xs.length : Int)) = false by simp]
  conv => whnf
  repeat (first | (refine And.intro (by first | exact Nat.le_of_ble_eq_true rfl | exact trivial | exact rfl | decide | omega | (simp [splice]; done) | (constructor <;> omega) | (simp [splice]; omega)) ?_; conv => whnf) | (refine optK_of (u8A (by omega)) ?_; conv => whnf) | (refine optK_of (u8A' (by omega)) ?_; conv => whnf) | (refine optK_of (intA (by omega)) ?_; conv => whnf) | (refine optK_of (intA' (by omega)) ?_; conv => whnf))
  refine loop_rule (α := Nat) (fun i => [(0, intsD m xs), (1, intsD m' xs), (5, .v (.int .i64 i))]) (fun i => []) (fun i => i ≤ xs.length) (fun i => xs.length - i) (0) ?_ (sim_of (rn := []) rfl ?_ ?_) ?_
  · first | omega | (dsimp only; omega) | ((repeat' apply And.intro) <;> omega) | (dsimp only; (repeat' apply And.intro) <;> omega) | trivial
  · ((repeat' (first | exact trivial | apply And.intro)) <;> (first | rfl | exact succ8 (by omega) | exact succ64 (by omega) | exact CapOk.fn (by assumption) _ _ | exact vintS (by omega) | exact vintS (by rw [w64 (by omega) (by omega)]; omega) | exact vintS (by rw [w8 (by omega) (by omega)]; omega) | exact vslcS (by omega) | exact vslcS (by simp)))
  · ((repeat' (first | exact trivial | apply And.intro)) <;> ((first | refine ⟨_, _, rfl, rfl, ?_⟩ ); rfl))
  intro i hi
  conv => whnf
  repeat (first | (refine And.intro (by first | exact Nat.le_of_ble_eq_true rfl | exact trivial | exact rfl | decide | omega | (simp [splice]; done) | (constructor <;> omega) | (simp [splice]; omega)) ?_; conv => whnf) | (refine optK_of (u8A (by omega)) ?_; conv => whnf) | (refine optK_of (u8A' (by omega)) ?_; conv => whnf) | (refine optK_of (intA (by omega)) ?_; conv => whnf) | (refine optK_of (intA' (by omega)) ?_; conv => whnf))
  cases h : decide ((i : Int) < (xs.length : Int))
  · conv => whnf
    repeat (first | (refine And.intro (by first | exact Nat.le_of_ble_eq_true rfl | exact trivial | exact rfl | decide | omega | (simp [splice]; done) | (constructor <;> omega) | (simp [splice]; omega)) ?_; conv => whnf) | (refine optK_of (u8A (by omega)) ?_; conv => whnf) | (refine optK_of (u8A' (by omega)) ?_; conv => whnf) | (refine optK_of (intA (by omega)) ?_; conv => whnf) | (refine optK_of (intA' (by omega)) ?_; conv => whnf))
    first | refine ⟨rfl, _, rfl, ?_⟩ | refine ⟨_, rfl, ?_⟩
    rfl
  have hin : i < xs.length := by simpa using h
  conv => whnf
  repeat (first | (refine And.intro (by first | exact Nat.le_of_ble_eq_true rfl | exact trivial | exact rfl | decide | omega | (simp [splice]; done) | (constructor <;> omega) | (simp [splice]; omega)) ?_; conv => whnf) | (refine optK_of (u8A (by omega)) ?_; conv => whnf) | (refine optK_of (u8A' (by omega)) ?_; conv => whnf) | (refine optK_of (intA (by omega)) ?_; conv => whnf) | (refine optK_of (intA' (by omega)) ?_; conv => whnf))
  rw [show (ix xs i != ix xs i) = false by simp]
  conv => whnf
  repeat (first | (refine And.intro (by first | exact Nat.le_of_ble_eq_true rfl | exact trivial | exact rfl | decide | omega | (simp [splice]; done) | (constructor <;> omega) | (simp [splice]; omega)) ?_; conv => whnf) | (refine optK_of (u8A (by omega)) ?_; conv => whnf) | (refine optK_of (u8A' (by omega)) ?_; conv => whnf) | (refine optK_of (intA (by omega)) ?_; conv => whnf) | (refine optK_of (intA' (by omega)) ?_; conv => whnf))
  refine ⟨i + 1, ?_, ?_, sim_of (rn := []) rfl ?_ ?_⟩
  · (dsimp only; omega)
  · first | omega | (dsimp only; omega) | ((repeat' apply And.intro) <;> omega) | (dsimp only; (repeat' apply And.intro) <;> omega) | trivial
  · ((repeat' (first | exact trivial | apply And.intro)) <;> (first | rfl | exact succ8 (by omega) | exact succ64 (by omega) | exact CapOk.fn (by assumption) _ _ | exact vintS (by omega) | exact vintS (by rw [w64 (by omega) (by omega)]; omega) | exact vintS (by rw [w8 (by omega) (by omega)]; omega) | exact vslcS (by omega) | exact vslcS (by simp)))
  · ((repeat' (first | exact trivial | apply And.intro)) <;> ((first | refine ⟨_, _, rfl, rfl, ?_⟩ ); rfl))
theorem a2Same_sat (xs : List Int) (hl : xs.length ≤ 1048576) (m m' : Bool) : Sat Try.prog 18 [intsD m xs, intsD m' xs] (.v (.bool true)) := by
  refine sat_of_wp hMix tOk Try.func18 rfl rfl Try.ntmps18 rfl rfl Try.results18 (by kernel_rfl) ?_
  conv => whnf
  repeat (first | (refine And.intro (by first | exact Nat.le_of_ble_eq_true rfl | exact trivial | exact rfl | decide | omega | (simp [splice]; done) | (constructor <;> omega) | (simp [splice]; omega)) ?_; conv => whnf) | (refine optK_of (u8A (by omega)) ?_; conv => whnf) | (refine optK_of (u8A' (by omega)) ?_; conv => whnf) | (refine optK_of (intA (by omega)) ?_; conv => whnf) | (refine optK_of (intA' (by omega)) ?_; conv => whnf))
  first | refine ⟨_, _, rfl, Sat.of_eq (l00Same_sat xs hl false false) (by repeat (first | rfl | exact vfull (by first | (simp [splice]; done) | (simp [splice]; omega)) | exact rfull (by first | (simp [splice]; done) | (simp [splice]; omega)) | exact vplace (by simp; done) (by omega) | exact vsplice (by simp) (by simp) | refine ceq ?_ ?_ | refine Eq.trans (vsplice (by first | (simp; done) | (simp; omega)) (by first | (simp; done) | (simp; omega))) ?_)), ?_⟩ | refine .inl ⟨_, _, rfl, Sat.of_eq (l00Same_sat xs hl false false) (by repeat (first | rfl | exact vfull (by first | (simp [splice]; done) | (simp [splice]; omega)) | exact rfull (by first | (simp [splice]; done) | (simp [splice]; omega)) | exact vplace (by simp; done) (by omega) | exact vsplice (by simp) (by simp) | refine ceq ?_ ?_ | refine Eq.trans (vsplice (by first | (simp; done) | (simp; omega)) (by first | (simp; done) | (simp; omega))) ?_)), ?_⟩
  conv => whnf
  repeat (first | (refine And.intro (by first | exact Nat.le_of_ble_eq_true rfl | exact trivial | exact rfl | decide | omega | (simp [splice]; done) | (constructor <;> omega) | (simp [splice]; omega)) ?_; conv => whnf) | (refine optK_of (u8A (by omega)) ?_; conv => whnf) | (refine optK_of (u8A' (by omega)) ?_; conv => whnf) | (refine optK_of (intA (by omega)) ?_; conv => whnf) | (refine optK_of (intA' (by omega)) ?_; conv => whnf))
  first | refine ⟨rfl, _, rfl, ?_⟩ | refine ⟨_, rfl, ?_⟩
  rfl
theorem eqAgg_place {q q' : Pl} (h : q.1 < 8 ∧ q.2 < 8) (h' : q'.1 < 8 ∧ q'.2 < 8) {xs ys : List Value} (hx : xs = [.int .i8 q.1, .int .i8 q.2]) (hy : ys = [.int .i8 q'.1, .int .i8 q'.2]) : EqAgg Try.prog 37 xs ys (decide (q = q')) := by
  subst hx hy
  have hc : Program.cellsOf Try.prog 37 = 2 := by kernel_rfl
  have hc1 : Program.cellsOf Try.prog 24 = 1 := by kernel_rfl
  have hu1 : Program.underlying Try.prog 24 = some (.int .i8) := Try.underlying24
  have wf : ∀ n : Nat, n < 8 → (Lit.int .i8 (n : Int)).wf = true := fun n hn => by
    simp [Lit.wf, IntKind.min, IntKind.max, IntKind.bits, IntKind.signed]; omega
  have fm : ∀ q : Pl, Value.formed Try.prog 37 (.agg ⟨[.int .i8 q.1, .int .i8 q.2]⟩) = true := by
    intro q
    unfold Value.formed
    rw [Try.underlying37]
    simp [hc]
  have cells : ∀ q : Pl, q.1 < 8 ∧ q.2 < 8 → ∀ x ∈ [Value.int .i8 q.1, Value.int .i8 q.2], IntCell x := by
    intro q hq x hx
    simp only [List.mem_cons, List.not_mem_nil, or_false] at hx
    rcases hx with rfl | rfl
    · exact wf _ hq.1
    · exact wf _ hq.2
  have kl : ∀ q : Pl, q.1 < 8 ∧ q.2 < 8 → Program.keyLits Try.prog 2 37 [.int .i8 q.1, .int .i8 q.2] = some (litsOf [.int .i8 q.1, .int .i8 q.2]) := fun q hq => by
    refine keyLits_struct (d := 1) Try.underlying37 (by rw [hc]; rfl) (by kernel_rfl) (fun f hf => ?_) ?_
    · simp only [List.mem_cons, List.not_mem_nil, or_false] at hf
      rcases hf with rfl | rfl
      · rw [hc1]; exact Go.V.keyLits_int (P := Try.prog) (d := 0) (e := 24) (k := .i8) (z := q.1) hu1 (wf _ hq.1)
      · rw [hc1]; exact Go.V.keyLits_int (P := Try.prog) (d := 0) (e := 24) (k := .i8) (z := q.2) hu1 (wf _ hq.2)
    · simp [hc1]
  exact eqAgg_of (m := 3) (by omega) (by kernel_rfl) (by kernel_rfl) (fm q) (fm q') (kl q h) (kl q' h') (cells q h) (cells q' h') (eqPl_iff h h')
theorem eqAgg_roof {r : Roof} (hr : r.In) {xs ys : List Value} (hx : xs = roofC r) (hy : ys = roofC r) : EqAgg Try.prog 28 xs ys true := by
  subst hx hy
  have hc : Program.cellsOf Try.prog 28 = 67 := by kernel_rfl
  have hc1 : Program.cellsOf Try.prog 24 = 1 := by kernel_rfl
  have hu1 : Program.underlying Try.prog 24 = some (.int .i8) := Try.underlying24
  have hc2 : Program.cellsOf Try.prog 5 = 1 := by kernel_rfl
  have hu2 : Program.underlying Try.prog 5 = some (.int .u8) := Try.underlying5
  have hc3 : Program.cellsOf Try.prog 26 = 64 := by kernel_rfl
  have hc4 : Program.cellsOf Try.prog 25 = 8 := by kernel_rfl
  have wf8 : ∀ n : Int, -128 ≤ n ∧ n ≤ 127 → (Lit.int .i8 n).wf = true := fun n hn => by
    simp [Lit.wf, IntKind.min, IntKind.max, IntKind.bits, IntKind.signed]; omega
  have wfu : ∀ n : Int, 0 ≤ n ∧ n ≤ 255 → (Lit.int .u8 n).wf = true := fun n hn => by
    simp [Lit.wf, IntKind.min, IntKind.max, IntKind.bits, IntKind.signed]; omega
  have gfit : ∀ (i : Nat) (x : Value), (grid r.t)[i]? = some x → ∃ z, x = Value.int .u8 z ∧ (Lit.int .u8 z).wf = true := by
    intro i x hx
    unfold grid at hx
    by_cases hi : i < 64
    · rw [tab_get hi] at hx
      simp only [Option.some.injEq] at hx
      subst hx
      exact ⟨_, rfl, wfu _ (hr.t _ _)⟩
    · rw [tab_none (by omega)] at hx; cases hx
  have fm : Value.formed Try.prog 28 (.agg ⟨roofC r⟩) = true := by
    unfold Value.formed
    rw [Try.underlying28]
    simp [hc]
  have cells : ∀ x ∈ roofC r, IntCell x := by
    intro x hx
    unfold roofC at hx
    simp only [List.mem_cons] at hx
    rcases hx with rfl | rfl | rfl | hx
    · exact wf8 _ hr.w
    · exact wf8 _ hr.h
    · exact wfu _ hr.s
    · obtain ⟨i, hi⟩ := List.getElem?_of_mem hx
      obtain ⟨z, rfl, hz⟩ := gfit i x hi
      exact hz
  have kg : Program.keyLits Try.prog 3 26 (grid r.t) = some (litsOf (grid r.t)) := by
    refine keyLits_array (d := 2) Try.underlying26 (by rw [hc3, hc4]) (by rw [hc4]; simp) fun i hi => ?_
    rw [hc4]
    refine keyLits_ints (d := 0) Try.underlying25 Try.underlying5 (by kernel_rfl) hc4 (by simp; omega) fun j x hx => ?_
    rw [List.getElem?_take] at hx
    split at hx
    · rw [List.getElem?_drop] at hx; exact gfit _ x hx
    · cases hx
  have kl : Program.keyLits Try.prog 4 28 (roofC r) = some (litsOf (roofC r)) := by
    refine keyLits_struct (d := 3) Try.underlying28 (by rw [hc]; simp) (by kernel_rfl) (fun f hf => ?_) ?_
    · simp only [List.mem_cons, List.not_mem_nil, or_false] at hf
      rcases hf with rfl | rfl | rfl | rfl
      · rw [hc1]; exact Go.V.keyLits_int (P := Try.prog) (d := 2) (e := 24) (k := .i8) (z := r.w) hu1 (wf8 _ hr.w)
      · rw [hc1]; exact Go.V.keyLits_int (P := Try.prog) (d := 2) (e := 24) (k := .i8) (z := r.h) hu1 (wf8 _ hr.h)
      · rw [hc2]; exact Go.V.keyLits_int (P := Try.prog) (d := 2) (e := 5) (k := .u8) (z := r.s) hu2 (wfu _ hr.s)
      · rw [hc3]
        have e : ((roofC r).drop 3).take 64 = grid r.t := by unfold roofC; simp [take_full]
        show Program.keyLits Try.prog 3 26 (((roofC r).drop 3).take 64) = some (litsOf (((roofC r).drop 3).take 64))
        rw [e]; exact kg
    · unfold roofC; simp [hc1, hc2, hc3, take_full]
  exact eqAgg_of (m := 4) (by omega) (by kernel_rfl) (by kernel_rfl) fm fm kl kl cells cells (by simp)
theorem samePlaces_sat (ps : List Pl) (hl : ps.length ≤ 4096) (hin : AllIn ps) (m m' : Bool) : Sat Try.prog 19 [placesD m ps, placesD m' ps] (.v (.bool true)) := by
  refine sat_of_wp hMix tOk Try.func19 rfl rfl Try.ntmps19 rfl rfl Try.results19 (by kernel_rfl) ?_
  conv => whnf
  repeat (first | (refine And.intro (by first | exact Nat.le_of_ble_eq_true rfl | exact trivial | exact rfl | decide | omega | (simp [splice]; done) | (constructor <;> omega) | (simp [splice]; omega)) ?_; conv => whnf) | (refine optK_of (u8A (by omega)) ?_; conv => whnf) | (refine optK_of (u8A' (by omega)) ?_; conv => whnf) | (refine optK_of (intA (by omega)) ?_; conv => whnf) | (refine optK_of (intA' (by omega)) ?_; conv => whnf))
  rw [show ((ps.length : Int) != (ps.length : Int)) = false by simp]
  conv => whnf
  repeat (first | (refine And.intro (by first | exact Nat.le_of_ble_eq_true rfl | exact trivial | exact rfl | decide | omega | (simp [splice]; done) | (constructor <;> omega) | (simp [splice]; omega)) ?_; conv => whnf) | (refine optK_of (u8A (by omega)) ?_; conv => whnf) | (refine optK_of (u8A' (by omega)) ?_; conv => whnf) | (refine optK_of (intA (by omega)) ?_; conv => whnf) | (refine optK_of (intA' (by omega)) ?_; conv => whnf))
  refine loop_rule (α := Nat) (fun i => [(0, placesD m ps), (1, placesD m' ps), (5, .v (.int .i64 i))]) (fun i => []) (fun i => i ≤ ps.length) (fun i => ps.length - i) (0) ?_ (sim_of (rn := []) rfl ?_ ?_) ?_
  · first | omega | (dsimp only; omega) | ((repeat' apply And.intro) <;> omega) | (dsimp only; (repeat' apply And.intro) <;> omega) | trivial
  · ((repeat' (first | exact trivial | apply And.intro)) <;> (first | rfl | exact succ8 (by omega) | exact succ64 (by omega) | exact CapOk.fn (by assumption) _ _ | exact vintS (by omega) | exact vintS (by rw [w64 (by omega) (by omega)]; omega) | exact vintS (by rw [w8 (by omega) (by omega)]; omega) | exact vslcS (by omega) | exact vslcS (by simp)))
  · ((repeat' (first | exact trivial | apply And.intro)) <;> ((first | refine ⟨_, _, rfl, rfl, ?_⟩ ); rfl))
  intro i hi
  conv => whnf
  repeat (first | (refine And.intro (by first | exact Nat.le_of_ble_eq_true rfl | exact trivial | exact rfl | decide | omega | (simp [splice]; done) | (constructor <;> omega) | (simp [splice]; omega)) ?_; conv => whnf) | (refine optK_of (u8A (by omega)) ?_; conv => whnf) | (refine optK_of (u8A' (by omega)) ?_; conv => whnf) | (refine optK_of (intA (by omega)) ?_; conv => whnf) | (refine optK_of (intA' (by omega)) ?_; conv => whnf))
  cases h : decide ((i : Int) < (ps.length : Int))
  · conv => whnf
    repeat (first | (refine And.intro (by first | exact Nat.le_of_ble_eq_true rfl | exact trivial | exact rfl | decide | omega | (simp [splice]; done) | (constructor <;> omega) | (simp [splice]; omega)) ?_; conv => whnf) | (refine optK_of (u8A (by omega)) ?_; conv => whnf) | (refine optK_of (u8A' (by omega)) ?_; conv => whnf) | (refine optK_of (intA (by omega)) ?_; conv => whnf) | (refine optK_of (intA' (by omega)) ?_; conv => whnf))
    first | refine ⟨rfl, _, rfl, ?_⟩ | refine ⟨_, rfl, ?_⟩
    rfl
  have hi2 : i < ps.length := by simpa using h
  conv => whnf
  repeat (first | (refine And.intro (by first | exact Nat.le_of_ble_eq_true rfl | exact trivial | exact rfl | decide | omega | (simp [splice]; done) | (constructor <;> omega) | (simp [splice]; omega)) ?_; conv => whnf) | (refine optK_of (u8A (by omega)) ?_; conv => whnf) | (refine optK_of (u8A' (by omega)) ?_; conv => whnf) | (refine optK_of (intA (by omega)) ?_; conv => whnf) | (refine optK_of (intA' (by omega)) ?_; conv => whnf))
  refine ⟨_, eqAgg_place (hin i hi2) (hin i hi2) (place_load (by simp) hi2) (place_load (by simp) hi2), ?_⟩
  rw [show decide (nthP ps i = nthP ps i) = true by simp]
  conv => whnf
  repeat (first | (refine And.intro (by first | exact Nat.le_of_ble_eq_true rfl | exact trivial | exact rfl | decide | omega | (simp [splice]; done) | (constructor <;> omega) | (simp [splice]; omega)) ?_; conv => whnf) | (refine optK_of (u8A (by omega)) ?_; conv => whnf) | (refine optK_of (u8A' (by omega)) ?_; conv => whnf) | (refine optK_of (intA (by omega)) ?_; conv => whnf) | (refine optK_of (intA' (by omega)) ?_; conv => whnf))
  refine ⟨i + 1, ?_, ?_, sim_of (rn := []) rfl ?_ ?_⟩
  · (dsimp only; omega)
  · first | omega | (dsimp only; omega) | ((repeat' apply And.intro) <;> omega) | (dsimp only; (repeat' apply And.intro) <;> omega) | trivial
  · ((repeat' (first | exact trivial | apply And.intro)) <;> (first | rfl | exact succ8 (by omega) | exact succ64 (by omega) | exact CapOk.fn (by assumption) _ _ | exact vintS (by omega) | exact vintS (by rw [w64 (by omega) (by omega)]; omega) | exact vintS (by rw [w8 (by omega) (by omega)]; omega) | exact vslcS (by omega) | exact vslcS (by simp)))
  · ((repeat' (first | exact trivial | apply And.intro)) <;> ((first | refine ⟨_, _, rfl, rfl, ?_⟩ ); rfl))
theorem a2Places_sat (r : Roof) (hr : r.In) (hb : Rb r) : Sat Try.prog 21 [roofD r] (placesD true (gridP r.w.toNat r.h.toNat)) := by
  have hall : Sat Try.prog 58 [.ref false (roofD r) 0] (placesD true (gridP r.w.toNat r.h.toNat)) := by rw [← allP_true]; exact l01All_sat r hr hb
  refine sat_of_wp hMix tOk Try.func21 rfl rfl Try.ntmps21 rfl rfl Try.results21 (by kernel_rfl) ?_
  conv => whnf
  repeat (first | (refine And.intro (by first | exact Nat.le_of_ble_eq_true rfl | exact trivial | exact rfl | decide | omega | (simp [splice]; done) | (constructor <;> omega) | (simp [splice]; omega)) ?_; conv => whnf) | (refine optK_of (u8A (by omega)) ?_; conv => whnf) | (refine optK_of (u8A' (by omega)) ?_; conv => whnf) | (refine optK_of (intA (by omega)) ?_; conv => whnf) | (refine optK_of (intA' (by omega)) ?_; conv => whnf))
  first | refine ⟨_, _, rfl, Sat.of_eq (hall) (by repeat (first | rfl | exact vfull (by first | (simp [splice]; done) | (simp [splice]; omega)) | exact rfull (by first | (simp [splice]; done) | (simp [splice]; omega)) | exact vplace (by simp; done) (by omega) | exact vsplice (by simp) (by simp) | refine ceq ?_ ?_ | refine Eq.trans (vsplice (by first | (simp; done) | (simp; omega)) (by first | (simp; done) | (simp; omega))) ?_)), ?_⟩ | refine .inl ⟨_, _, rfl, Sat.of_eq (hall) (by repeat (first | rfl | exact vfull (by first | (simp [splice]; done) | (simp [splice]; omega)) | exact rfull (by first | (simp [splice]; done) | (simp [splice]; omega)) | exact vplace (by simp; done) (by omega) | exact vsplice (by simp) (by simp) | refine ceq ?_ ?_ | refine Eq.trans (vsplice (by first | (simp; done) | (simp; omega)) (by first | (simp; done) | (simp; omega))) ?_)), ?_⟩
  conv => whnf
  repeat (first | (refine And.intro (by first | exact Nat.le_of_ble_eq_true rfl | exact trivial | exact rfl | decide | omega | (simp [splice]; done) | (constructor <;> omega) | (simp [splice]; omega)) ?_; conv => whnf) | (refine optK_of (u8A (by omega)) ?_; conv => whnf) | (refine optK_of (u8A' (by omega)) ?_; conv => whnf) | (refine optK_of (intA (by omega)) ?_; conv => whnf) | (refine optK_of (intA' (by omega)) ?_; conv => whnf))
  first | refine ⟨rfl, _, rfl, ?_⟩ | refine ⟨_, rfl, ?_⟩
  rfl
theorem l01Has_sat (ps : List Pl) (hl : ps.length ≤ 4096) (hin : AllIn ps) (q : Pl) (hq : q.1 < 8 ∧ q.2 < 8) (m : Bool) : Sat Try.prog 71 [placesD m ps, plD q] (.v (.bool (ps.any fun p => decide (p = q)))) := by
  refine sat_of_wp hMix tOk Try.func71 rfl rfl Try.ntmps71 rfl rfl Try.results71 (by kernel_rfl) ?_
  conv => whnf
  repeat (first | (refine And.intro (by first | exact Nat.le_of_ble_eq_true rfl | exact trivial | exact rfl | decide | omega | (simp [splice]; done) | (constructor <;> omega) | (simp [splice]; omega)) ?_; conv => whnf) | (refine optK_of (u8A (by omega)) ?_; conv => whnf) | (refine optK_of (u8A' (by omega)) ?_; conv => whnf) | (refine optK_of (intA (by omega)) ?_; conv => whnf) | (refine optK_of (intA' (by omega)) ?_; conv => whnf))
  refine loop_rule (α := Nat) (fun i => [(0, placesD m ps), (3, .ptr (3, 0, 0) 0), (5, .v (.int .i64 i))]) (fun i => [((3, 0, 0), plD q)]) (fun i => i ≤ ps.length ∧ ∀ j, j < i → decide (nthP ps j = q) = false) (fun i => ps.length - i) (0) ?_ (sim_of (rn := [((3, 0, 0), (3, 0, 0))]) rfl ?_ ?_) ?_
  · exact ⟨Nat.zero_le _, fun j hj => by omega⟩
  · ((repeat' (first | exact trivial | apply And.intro)) <;> (first | rfl | exact succ8 (by omega) | exact succ64 (by omega) | exact CapOk.fn (by assumption) _ _ | exact vintS (by omega) | exact vintS (by rw [w64 (by omega) (by omega)]; omega) | exact vintS (by rw [w8 (by omega) (by omega)]; omega) | exact vslcS (by omega) | exact vslcS (by simp)))
  · ((repeat' (first | exact trivial | apply And.intro)) <;> ((first | refine ⟨_, _, rfl, rfl, ?_⟩ ); rfl))
  rintro i ⟨hi, hall⟩
  conv => whnf
  repeat (first | (refine And.intro (by first | exact Nat.le_of_ble_eq_true rfl | exact trivial | exact rfl | decide | omega | (simp [splice]; done) | (constructor <;> omega) | (simp [splice]; omega)) ?_; conv => whnf) | (refine optK_of (u8A (by omega)) ?_; conv => whnf) | (refine optK_of (u8A' (by omega)) ?_; conv => whnf) | (refine optK_of (intA (by omega)) ?_; conv => whnf) | (refine optK_of (intA' (by omega)) ?_; conv => whnf))
  cases h : decide ((i : Int) < (ps.length : Int))
  · have hi2 : i = ps.length := by simp at h; omega
    subst hi2
    have : (ps.any fun p => decide (p = q)) = false := by
      rw [List.any_eq_false]
      intro p hp
      obtain ⟨j, hj, rfl⟩ := List.getElem_of_mem hp
      have := hall j hj
      unfold nthP at this
      rw [List.getD_eq_getElem?_getD] at this
      simpa [hj] using this
    rw [this]
    conv => whnf
    repeat (first | (refine And.intro (by first | exact Nat.le_of_ble_eq_true rfl | exact trivial | exact rfl | decide | omega | (simp [splice]; done) | (constructor <;> omega) | (simp [splice]; omega)) ?_; conv => whnf) | (refine optK_of (u8A (by omega)) ?_; conv => whnf) | (refine optK_of (u8A' (by omega)) ?_; conv => whnf) | (refine optK_of (intA (by omega)) ?_; conv => whnf) | (refine optK_of (intA' (by omega)) ?_; conv => whnf))
    first | refine ⟨rfl, _, rfl, ?_⟩ | refine ⟨_, rfl, ?_⟩
    rfl
  have hi2 : i < ps.length := by simpa using h
  conv => whnf
  repeat (first | (refine And.intro (by first | exact Nat.le_of_ble_eq_true rfl | exact trivial | exact rfl | decide | omega | (simp [splice]; done) | (constructor <;> omega) | (simp [splice]; omega)) ?_; conv => whnf) | (refine optK_of (u8A (by omega)) ?_; conv => whnf) | (refine optK_of (u8A' (by omega)) ?_; conv => whnf) | (refine optK_of (intA (by omega)) ?_; conv => whnf) | (refine optK_of (intA' (by omega)) ?_; conv => whnf))
  refine ⟨_, eqAgg_place (hin i hi2) hq (place_load (by simp) hi2) rfl, ?_⟩
  cases h5 : decide (nthP ps i = q)
  · have hall' := below_succ (p := fun j => decide (nthP ps j = q) = false) hall h5
    conv => whnf
    repeat (first | (refine And.intro (by first | exact Nat.le_of_ble_eq_true rfl | exact trivial | exact rfl | decide | omega | (simp [splice]; done) | (constructor <;> omega) | (simp [splice]; omega)) ?_; conv => whnf) | (refine optK_of (u8A (by omega)) ?_; conv => whnf) | (refine optK_of (u8A' (by omega)) ?_; conv => whnf) | (refine optK_of (intA (by omega)) ?_; conv => whnf) | (refine optK_of (intA' (by omega)) ?_; conv => whnf))
    refine ⟨i + 1, ?_, ?_, sim_of (rn := [((3, 0, 0), (3, 0, 0))]) rfl ?_ ?_⟩
    · (dsimp only; omega)
    · exact ⟨by omega, hall'⟩
    · ((repeat' (first | exact trivial | apply And.intro)) <;> (first | rfl | exact succ8 (by omega) | exact succ64 (by omega) | exact CapOk.fn (by assumption) _ _ | exact vintS (by omega) | exact vintS (by rw [w64 (by omega) (by omega)]; omega) | exact vintS (by rw [w8 (by omega) (by omega)]; omega) | exact vslcS (by omega) | exact vslcS (by simp)))
    · ((repeat' (first | exact trivial | apply And.intro)) <;> ((first | refine ⟨_, _, rfl, rfl, ?_⟩ ); rfl))
  have : (ps.any fun p => decide (p = q)) = true := by
    rw [List.any_eq_true]
    exact ⟨nthP ps i, nthP_mem hi2, h5⟩
  rw [this]
  conv => whnf
  repeat (first | (refine And.intro (by first | exact Nat.le_of_ble_eq_true rfl | exact trivial | exact rfl | decide | omega | (simp [splice]; done) | (constructor <;> omega) | (simp [splice]; omega)) ?_; conv => whnf) | (refine optK_of (u8A (by omega)) ?_; conv => whnf) | (refine optK_of (u8A' (by omega)) ?_; conv => whnf) | (refine optK_of (intA (by omega)) ?_; conv => whnf) | (refine optK_of (intA' (by omega)) ?_; conv => whnf))
  first | refine ⟨rfl, _, rfl, ?_⟩ | refine ⟨_, rfl, ?_⟩
  rfl
theorem a2HasPlace_sat (ps : List Pl) (hl : ps.length ≤ 4096) (hin : AllIn ps) (q : Pl) (hq : q.1 < 8 ∧ q.2 < 8) (m : Bool) : Sat Try.prog 24 [placesD m ps, plD q] (.v (.bool (ps.any fun p => decide (p = q)))) := by
  refine sat_of_wp hMix tOk Try.func24 rfl rfl Try.ntmps24 rfl rfl Try.results24 (by kernel_rfl) ?_
  conv => whnf
  repeat (first | (refine And.intro (by first | exact Nat.le_of_ble_eq_true rfl | exact trivial | exact rfl | decide | omega | (simp [splice]; done) | (constructor <;> omega) | (simp [splice]; omega)) ?_; conv => whnf) | (refine optK_of (u8A (by omega)) ?_; conv => whnf) | (refine optK_of (u8A' (by omega)) ?_; conv => whnf) | (refine optK_of (intA (by omega)) ?_; conv => whnf) | (refine optK_of (intA' (by omega)) ?_; conv => whnf))
  first | refine ⟨_, _, rfl, Sat.of_eq (l01Has_sat ps hl hin q hq false) (by repeat (first | rfl | exact vfull (by first | (simp [splice]; done) | (simp [splice]; omega)) | exact rfull (by first | (simp [splice]; done) | (simp [splice]; omega)) | exact vplace (by simp; done) (by omega) | exact vsplice (by simp) (by simp) | refine ceq ?_ ?_ | refine Eq.trans (vsplice (by first | (simp; done) | (simp; omega)) (by first | (simp; done) | (simp; omega))) ?_)), ?_⟩ | refine .inl ⟨_, _, rfl, Sat.of_eq (l01Has_sat ps hl hin q hq false) (by repeat (first | rfl | exact vfull (by first | (simp [splice]; done) | (simp [splice]; omega)) | exact rfull (by first | (simp [splice]; done) | (simp [splice]; omega)) | exact vplace (by simp; done) (by omega) | exact vsplice (by simp) (by simp) | refine ceq ?_ ?_ | refine Eq.trans (vsplice (by first | (simp; done) | (simp; omega)) (by first | (simp; done) | (simp; omega))) ?_)), ?_⟩
  conv => whnf
  repeat (first | (refine And.intro (by first | exact Nat.le_of_ble_eq_true rfl | exact trivial | exact rfl | decide | omega | (simp [splice]; done) | (constructor <;> omega) | (simp [splice]; omega)) ?_; conv => whnf) | (refine optK_of (u8A (by omega)) ?_; conv => whnf) | (refine optK_of (u8A' (by omega)) ?_; conv => whnf) | (refine optK_of (intA (by omega)) ?_; conv => whnf) | (refine optK_of (intA' (by omega)) ?_; conv => whnf))
  first | refine ⟨rfl, _, rfl, ?_⟩ | refine ⟨_, rfl, ?_⟩
  rfl
end Go.Proofs.Ytecjkbgepbefcaa
/- Plain words: what holds of years, all together. -/
set_option linter.unusedVariables false
set_option linter.unusedSimpArgs false
namespace Go.V
/-- What the law on years needs of its roof, ages and numbers. -/
structure YIn (r : Roof) (a : Nat → Nat → Int) (life years : Int) : Prop where
  rin : r.In
  ain : AgesIn a
  rok : okR r = true
  aok : okA r a = true
  lf : 3 ≤ life ∧ life ≤ 42
  yr : 0 ≤ years ∧ years ≤ 119
section
variable {r : Roof} {a : Nat → Nat → Int} {life years : Int} (h : YIn r a life years)
include h
theorem YIn.b : Rb r := okR_bounds h.rok
theorem YIn.lifeB : lifeOk life = true := by have := h.lf; unfold lifeOk; simp; omega
theorem YIn.ask : askC r a (lifeOk life) = 0 := by unfold askC; rw [if_pos h.aok, if_pos h.lifeB]
theorem YIn.z : brkK r a life years = 0 := by
  have := h.yr
  unfold brkK askC
  rw [if_pos h.aok, h.lifeB, if_pos]
  unfold yearsOk; simp; omega
theorem YIn.m : 0 ≤ ageP a (oldP r a) ∧ ageP a (oldP r a) ≤ 100 := (brk_facts h.ain h.z).2.1
theorem YIn.old : oldV r a = .tup [plD (oldP r a), .v (.int .i64 (ageP a (oldP r a))), .v (.int .i64 0)] := by unfold oldV; rw [if_pos h.aok]
theorem YIn.brk : brkV r a life = .tup [.v (.int .i64 (if life + 1 - ageP a (oldP r a) > 0 then life + 1 - ageP a (oldP r a) else 0)), .v (.int .i64 0)] := by
  have h1 := h.lf
  have h2 := h.m
  unfold brkV brkN
  rw [h.ask, if_pos rfl, w64 (n := life + 1) (by omega) (by omega), w64 (by omega) (by omega)]
  unfold max0
  congr 4
  split <;> split <;> omega
theorem YIn.too : tooL r a life = oldL r a life 0 := by unfold tooL; rw [if_pos h.ask]
theorem YIn.vk : visK r a life years = if ageP a (oldP r a) > life then 6 else 0 := by unfold visK; rw [if_pos h.z]
theorem YIn.vno (hm : ageP a (oldP r a) > life) : visX r a life years = [] ∧ repX r a life years = [] := by
  have hk : ¬ visK r a life years = 0 := by rw [h.vk, if_pos hm]; omega
  exact ⟨by unfold visX; rw [if_neg hk], by unfold repX; rw [if_neg hk]⟩
theorem YIn.vyes (hm : ¬ ageP a (oldP r a) > life) : visX r a life years = visL life years 400 (life - ageP a (oldP r a)) := by
  have hk : visK r a life years = 0 := by rw [h.vk, if_neg hm]
  unfold visX; rw [if_pos hk]
theorem YIn.vlen : (visX r a life years).length ≤ 119 := by
  have h1 := h.lf; have h2 := h.yr; have h3 := h.m
  by_cases hm : ageP a (oldP r a) > life
  · rw [(h.vno hm).1]; simp
  · rw [h.vyes hm]
    have := visL_few (life := life) (years := years) (by omega) 400 (life - ageP a (oldP r a))
    omega
theorem YIn.vI64 : ∀ i, i < (visX r a life years).length → -1000 ≤ ix (visX r a life years) i ∧ ix (visX r a life years) i ≤ 1000 := by
  intro i hi
  have h1 := h.lf; have h2 := h.yr; have h3 := h.m
  by_cases hm : ageP a (oldP r a) > life
  · rw [(h.vno hm).1] at hi; simp at hi
  · rw [h.vyes hm] at hi ⊢
    have := visL_mem (life := life) (years := years) (by omega) 400 (life - ageP a (oldP r a)) _ (ix_mem hi)
    omega
theorem YIn.klen : (repX r a life years).length = (visX r a life years).length := by
  by_cases hm : ageP a (oldP r a) > life
  · rw [(h.vno hm).1, (h.vno hm).2]
  · have hk : visK r a life years = 0 := by rw [h.vk, if_neg hm]
    rw [h.vyes hm]
    unfold repX
    rw [if_pos hk, outI_len]
theorem YIn.chk (hm : ¬ ageP a (oldP r a) > life) : chkK r a life years (visX r a life years) = 0 ∧ chkB r a life years (visX r a life years) = true := by
  have h1 := h.lf; have h2 := h.yr; have h3 := h.m; have h4 := h.vlen
  have hk : chkK r a life years (visX r a life years) = 0 := by unfold chkK; rw [if_pos h.z, if_neg (by omega)]
  refine ⟨hk, ?_⟩
  unfold chkB
  rw [if_pos hk, h.vyes hm]
  have := chk_due (life := life) (years := years) (by omega) 400 (life - ageP a (oldP r a)) (-1) (by omega) (by omega)
  rw [show life - ageP a (oldP r a) - life = -ageP a (oldP r a) by omega] at this
  exact this
theorem YIn.less (hm : ¬ ageP a (oldP r a) > life) {k : Nat} (hk : k < (visX r a life years).length) :
    chkK r a life years ((visX r a life years).eraseIdx k) = 0 ∧ chkB r a life years ((visX r a life years).eraseIdx k) = false := by
  have h1 := h.lf; have h4 := h.vlen
  have hkk : chkK r a life years ((visX r a life years).eraseIdx k) = 0 := by
    unfold chkK
    rw [if_pos h.z, if_neg]
    have := List.length_eraseIdx_le (visX r a life years) k
    omega
  refine ⟨hkk, ?_⟩
  unfold chkB
  rw [if_pos hkk]
  rw [h.vyes hm] at hk ⊢
  have := chk_erase (life := life) (years := years) (by omega) 400 (life - ageP a (oldP r a)) (-1) k hk
  rw [show life - ageP a (oldP r a) - life = -ageP a (oldP r a) by omega] at this
  exact this
theorem YIn.late (hm : ¬ ageP a (oldP r a) > life) {k : Nat} (hk : k < (visX r a life years).length) :
    chkK r a life years ((visX r a life years).set k (ix (visX r a life years) k + 1)) = 0 ∧ chkB r a life years ((visX r a life years).set k (ix (visX r a life years) k + 1)) = false := by
  have h1 := h.lf; have h4 := h.vlen
  have hkk : chkK r a life years ((visX r a life years).set k (ix (visX r a life years) k + 1)) = 0 := by
    unfold chkK
    rw [if_pos h.z, if_neg (by simp; omega)]
  refine ⟨hkk, ?_⟩
  unfold chkB
  rw [if_pos hkk]
  rw [h.vyes hm] at hk ⊢
  have := chk_late (life := life) (years := years) (by omega) 400 (life - ageP a (oldP r a)) (-1) k hk
  rw [show life - ageP a (oldP r a) - life = -ageP a (oldP r a) by omega] at this
  exact this
theorem YIn.rep (hm : ¬ ageP a (oldP r a) > life) {k : Nat} (hk : k < (visX r a life years).length) :
    1 ≤ ix (repX r a life years) k ∧ ix (repX r a life years) k ≤ (gridP r.w.toNat r.h.toNat).length := by
  have h1 := h.lf
  have hv : visK r a life years = 0 := by rw [h.vk, if_neg hm]
  rw [h.vyes hm] at hk
  unfold repX
  rw [if_pos hv]
  obtain ⟨o, ho, hoe⟩ := List.getElem_of_mem (oldP_mem2 h.b a)
  have := rep_range (life := life) (years := years) (v0 := life - ageP a (oldP r a)) (f := 400) (b0 := (gridP r.w.toNat r.h.toNat).map (negA a)) (o := o) (by omega) (by simpa using ho) (by
    unfold ix
    rw [List.getD_eq_getElem?_getD, List.getElem?_map]
    simp only [List.getElem?_eq_getElem ho, Option.map_some, Option.getD_some, hoe]
    unfold negA ageP; omega) hk
  simpa using this
theorem YIn.lat : latK r a life = if ageP a (oldP r a) + life > 100 then 3 else 0 := by
  have h1 := h.lf
  unfold latK
  have : askC r a (ageOk0 life) = 0 := by
    unfold askC
    rw [if_pos h.aok, if_pos]
    unfold ageOk0; simp; omega
  rw [if_pos this]
theorem YIn.lat2 (hm : ageP a (oldP r a) + life ≤ 100) : AgesIn (latG r a life) ∧ okA r (latG r a life) = true ∧ (∀ q ∈ gridP r.w.toNat r.h.toNat, latG r a life q.1 q.2 = a q.1 q.2 + life) := by
  have h1 := h.lf
  have hk : latK r a life = 0 := by rw [h.lat, if_neg (by omega)]
  have hb := h.b
  have hin : AgesIn (latG r a life) := by
    unfold latG
    rw [if_pos hk]
    refine addP_in h.ain (by omega) fun j hj => ?_
    have := oldP_max hb a hj
    omega
  have hval : ∀ q ∈ gridP r.w.toNat r.h.toNat, latG r a life q.1 q.2 = a q.1 q.2 + life := by
    intro q hq
    have hq' := grid_mem.1 hq
    unfold latG
    rw [if_pos hk]
    unfold addP
    rw [if_pos]
    refine ⟨hq'.2, ?_⟩
    have : (q.1 + 1) * r.w.toNat ≤ r.h.toNat * r.w.toNat := Nat.mul_le_mul_right _ hq'.1
    rw [Nat.succ_mul] at this
    omega
  refine ⟨hin, ?_, hval⟩
  unfold okA
  rw [h.rok, Bool.true_and]
  refine all8_true fun c hc k hk' => ?_
  have hA := h.aok
  unfold okA at hA
  rw [h.rok, Bool.true_and] at hA
  have h2 := all8_iff.1 hA c hc k hk'
  unfold ageOk inR at h2 ⊢
  by_cases hq : (c : Int) < r.h ∧ (k : Int) < r.w
  · have hg : (c, k) ∈ gridP r.w.toNat r.h.toNat := grid_mem.2 ⟨by dsimp only; omega, by dsimp only; omega⟩
    have h3 := hval _ hg
    have h4 := oldP_ge hb a hg
    dsimp only at h3 h4
    rw [h3]
    simp [hq]; omega
  · have h5 : latG r a life c k = a c k := by
      unfold latG
      rw [if_pos hk]
      unfold addP
      rw [if_neg]
      rintro ⟨hk2, hc2⟩
      apply hq
      refine ⟨?_, by omega⟩
      apply Classical.byContradiction
      intro hn
      have hge : r.h.toNat ≤ c := by omega
      have : r.h.toNat * r.w.toNat ≤ c * r.w.toNat := Nat.mul_le_mul_right _ hge
      omega
    rw [h5]; exact h2
theorem YIn.later (hm : ageP a (oldP r a) + life ≤ 100) : (0 < (oldL r (latG r a life) life 0).length ↔ ageP a (oldP r a) ≠ 0) := by
  obtain ⟨h1, h2, h3⟩ := h.lat2 hm
  have hb := h.b
  have hM : ageP (latG r a life) (oldP r (latG r a life)) = ageP a (oldP r a) + life := by
    have e1 := h3 _ (oldP_mem2 hb (latG r a life))
    have e2 := h3 _ (oldP_mem2 hb a)
    have g1 := oldP_ge hb a (oldP_mem2 hb (latG r a life))
    have g2 := oldP_ge hb (latG r a life) (oldP_mem2 hb a)
    unfold ageP at *
    omega
  rw [oldL_pos hb h1, hM]
  have := h.m
  omega
omit h in
theorem brkAt_in {r : Roof} (hr : r.In) (ps : List Pl) : ∀ n, n ≤ ps.length → (brkAt r ps n).In
  | 0, _ => by rw [brkAt_zero]; exact hr
  | n + 1, hn => by rw [brkAt_next r (by omega)]; exact putR_in (brkAt_in hr ps n (by omega)) (by omega)
theorem YIn.bin : (brkR r a life years).In := by
  unfold brkR
  rw [if_pos h.z]
  exact brkAt_in h.rin _ _ (Nat.le_refl _)
theorem YIn.wrap {q : Pl} (hq : q ∈ gridP r.w.toNat r.h.toNat) : IntKind.i64.wrap (a q.1 q.2 + years) = a q.1 q.2 + years := by
  have h1 := oldP_ge h.b a hq
  have h2 := h.m; have h3 := h.yr; have h4 := h.ain.t q.1 q.2
  exact w64 (by omega) (by omega)
theorem YIn.kind {q : Pl} (hq : q ∈ gridP r.w.toNat r.h.toNat) : (brkR r a life years).t q.1 q.2 = if a q.1 q.2 + years > life then 3 else r.t q.1 q.2 := by
  have hq' := grid_mem.1 hq
  rw [broken_t h.z hq'.1 hq'.2]
  unfold oldT
  rw [h.wrap hq]
  by_cases hc : a q.1 q.2 + years > life <;> simp [hc]
theorem YIn.has {q : Pl} (hq : q ∈ gridP r.w.toNat r.h.toNat) : ((oldL r a life 0).any fun p => decide (p = q)) = decide (a q.1 q.2 > life) := by
  have hq' := grid_mem.1 hq
  have h1 := oldP_ge h.b a hq
  have h2 := h.m; have h4 := h.ain.t q.1 q.2
  have hw : IntKind.i64.wrap (a q.1 q.2 + 0) = a q.1 q.2 := by rw [Int.add_zero]; exact w64 (by omega) (by omega)
  rw [Bool.eq_iff_iff, List.any_eq_true, decide_eq_true_iff]
  constructor
  · rintro ⟨p, hp, hpq⟩
    have : p = q := by simpa using hpq
    subst this
    have := (allP_mem.1 hp).2
    unfold oldT at this
    rw [hw] at this
    simpa using this
  · intro hgt
    refine ⟨q, allP_mem.2 ⟨hq', ?_⟩, by simp⟩
    unfold oldT
    rw [hw]
    simpa using hgt
/-- The oldest tile is the first of the oldest ones. -/
theorem YIn.first {q : Pl} (hq : q ∈ gridP r.w.toNat r.h.toNat) (he : a q.1 q.2 = ageP a (oldP r a)) : ¬ (q.1 < (oldP r a).1 ∨ (q.1 = (oldP r a).1 ∧ q.2 < (oldP r a).2)) := by
  have hb := h.b
  have hs := gridP_size hb
  have hl := gridP_len r.w.toNat r.h.toNat
  obtain ⟨j, h1, h2, h3⟩ := bestL_first a (gridP r.w.toNat r.h.toNat) ((gridP r.w.toNat r.h.toNat).length - 1) (by omega)
  obtain ⟨i, hi, hqi⟩ := List.getElem_of_mem hq
  have hni : nthP (gridP r.w.toNat r.h.toNat) i = q := by unfold nthP; rw [List.getD_eq_getElem?_getD]; simp [hi, hqi]
  have hij : j ≤ i := by
    rcases Nat.lt_or_ge i j with hlt | hge
    · have := h3 i hlt
      rw [hni] at this
      change a q.1 q.2 < ageP a (oldP r a) at this
      omega
    · exact hge
  have e1 : oldP r a = (j / r.w.toNat, j % r.w.toNat) := by
    show bestL a _ _ = _
    rw [h2, gridP_nth (by omega)]
  rw [gridP_nth (by omega)] at hni
  rw [e1, ← hni]
  dsimp only
  have hdiv : j / r.w.toNat ≤ i / r.w.toNat := Nat.div_le_div_right hij
  rintro (hlt | ⟨heq, hlt⟩)
  · omega
  · have a1 := Nat.div_add_mod i r.w.toNat
    have a2 := Nat.div_add_mod j r.w.toNat
    rw [heq] at a1
    omega
end
end Go.V
