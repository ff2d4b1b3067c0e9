import Derived.Test.YtndlknhakdadjaaP3
import Derived.Test.YtndlknhakdadjaaP2
set_option linter.unusedVariables false
set_option linter.unusedSimpArgs false
/- Contracts: a minute, and several, both sides; the laws. -/
set_option linter.unusedVariables false
set_option linter.unusedSimpArgs false
namespace Go.V
theorem watP {w : Nat → Int} {x : Int} (h0 : 0 ≤ x) (h : x < 17) : nth (watC w) (0 + x.toNat * 1) = some (.int .i32 (w x.toNat)) := watN (by simp) (by omega)
theorem end17 {x y : List Value} (hx : x.length = 17) (hy : y.length = 17) : y = List.take 17 (List.drop 0 (splice x 0 (List.take 17 (List.drop 0 y)))) := by
  rw [List.drop_zero, List.drop_zero, take_full (l := y) (by omega), splice_all (by omega), take_full (by omega)]
theorem one17 {x y : List Value} (hx : x.length = 17) (hy : y.length = 17) : y = List.take 17 (List.drop 0 (splice x 0 y)) := by
  rw [splice_all (by omega), List.drop_zero, take_full (by omega)]
/-- Over the first k cells: what is too much is cut away. -/
def cutW (dp : Int) (o : Nat → Int) (k : Nat) : Nat → Int := fun j => if j < k then cut1 dp (o j) else o j
theorem cutW_zero (dp : Int) (o : Nat → Int) : cutW dp o 0 = o := by funext j; simp [cutW]
theorem cutW_put {dp : Int} {o : Nat → Int} {k : Nat} (h : o k - dp > 0) : putW (cutW dp o k) k dp = cutW dp o (k + 1) := by
  funext j
  unfold putW cutW
  by_cases h1 : j = k
  · subst h1; rw [if_pos rfl, if_pos (by omega)]; unfold cut1; rw [if_pos h]
  · rw [if_neg h1]
    by_cases h2 : j < k
    · rw [if_pos h2, if_pos (by omega)]
    · rw [if_neg h2, if_neg (by omega)]
theorem cutW_keep {dp : Int} {o : Nat → Int} {k : Nat} (h : ¬ o k - dp > 0) : cutW dp o (k + 1) = cutW dp o k := by
  funext j
  unfold cutW
  by_cases h1 : j = k
  · subst h1; rw [if_pos (by omega), if_neg (by omega)]; unfold cut1; rw [if_neg h]
  · by_cases h2 : j < k
    · rw [if_pos (by omega), if_pos h2]
    · rw [if_neg (by omega), if_neg h2]
theorem cutW_at {dp : Int} {o : Nat → Int} {k : Nat} : cutW dp o k k = o k := by simp [cutW]
theorem cutW_all {dp : Int} (hd : 0 ≤ dp) {o : Nat → Int} {n : Nat} (hz : ∀ j, n ≤ j → o j = 0) : watC (cutW dp o n) = watC (fun j => cut1 dp (o j)) := watC_congr fun j hj => by
  unfold cutW
  by_cases h : j < n
  · rw [if_pos h]
  · rw [if_neg h, hz j (by omega)]; unfold cut1; rw [if_neg (by omega)]
end Go.V
namespace Go.Proofs.Ytndlknhakdadjaa
open Go.V
theorem minute_sat (g : Gut) (hg : g.In) (ho : g.Ok) (w : Nat → Int) (hw : W17 1000 w) (xs : List Int) (hx : RainOk g xs) (m : Bool) :
    Sat Try.prog 146 [gutD false g, watD w, intsD m xs] (.tup [watD (minW g w xs), .v (.int .i64 (minT g w xs)), .v (.int .i64 (minO g w xs))]) := by
  have hn := ho.n
  have hdp := ho.dp
  have hxl := hx.len
  have hpl := ho.len
  have e17 : watC (fun _ => 0) = List.replicate 17 (.int .i32 0) := watC_zero
  have ed : IntKind.i32.wrap g.dp = g.dp := w32 (by omega) (by omega)
  refine sat_of_wp hMix tOk Try.func146 rfl rfl Try.ntmps146 rfl rfl Try.results146 (by kernel_rfl) ?_
  conv => whnf
  repeat (first | (refine And.intro (by first | exact Nat.le_of_ble_eq_true rfl | exact rfl | decide | omega | (simp [splice]; done) | (constructor <;> omega) | (simp [splice]; omega)) ?_; conv => whnf) | (refine optK_of (watA (by omega)) ?_; conv => whnf) | (refine optK_of (watA' (by omega)) ?_; conv => whnf) | (refine optK_of (watP (by omega) (by omega)) ?_; conv => whnf) | (refine optK_of (hDA (by omega)) ?_; conv => whnf) | (refine optK_of (hDA' (by omega)) ?_; conv => whnf) | (refine optK_of (gutA (by omega)) ?_; conv => whnf) | (refine optK_of (pipeA (by omega)) ?_; conv => whnf) | (refine optK_of (pipeB (by omega)) ?_; conv => whnf) | (refine optK_of (pipeSA (by omega)) ?_; conv => whnf) | (refine optK_of (pipeSB (by omega)) ?_; conv => whnf) | (refine optK_of (intA (by omega)) ?_; conv => whnf) | (refine optK_of (intA' (by omega)) ?_; conv => whnf) | (refine optK_of (upA (by omega)) ?_; conv => whnf))
  refine loop_rule (α := Nat) (fun k => [(3, .ptr (3, 0, 0) 0), (4, .ptr (4, 0, 0) 0), (6, .ptr (6, 0, 0) 0), (23, intsD m xs), (24, .v (.int .i64 xs.length)), (25, .v (.int .i64 k))]) (fun k => [((3, 0, 0), gutD false g), ((4, 0, 0), watD (wR w xs k)), ((6, 0, 0), watD (fun _ => 0))]) (fun k => k ≤ xs.length) (fun k => xs.length - k) (0) ?_ (sim_of (rn := [((3, 0, 0), (3, 0, 0)), ((4, 0, 0), (4, 0, 0)), ((6, 0, 0), (6, 0, 0))]) rfl ?_ ?_) ?_
  · first | omega | (dsimp only; omega) | ((repeat' apply And.intro) <;> omega) | (dsimp only; (repeat' apply And.intro) <;> omega) | trivial
  · ((repeat' (first | exact trivial | apply And.intro)) <;> (first | rfl | exact succ8 (by omega) | exact succ64 (by omega) | exact CapOk.fn (by assumption) _ _ | exact vintS (by omega) | exact vintS (by rw [w64 (by omega) (by omega)]; omega) | exact vintS (by rw [w8 (by omega) (by omega)]; omega) | exact vslcS (by omega) | exact vslcS (by simp)))
  · ((repeat' (first | exact trivial | apply And.intro)) <;> (refine ⟨_, _, rfl, rfl, ?_⟩; first | rfl | (first | exact cset (by rw [wR_zero]) | exact cset e17.symm)))
  intro k hk
  conv => whnf
  repeat (first | (refine And.intro (by first | exact Nat.le_of_ble_eq_true rfl | exact rfl | decide | omega | (simp [splice]; done) | (constructor <;> omega) | (simp [splice]; omega)) ?_; conv => whnf) | (refine optK_of (watA (by omega)) ?_; conv => whnf) | (refine optK_of (watA' (by omega)) ?_; conv => whnf) | (refine optK_of (watP (by omega) (by omega)) ?_; conv => whnf) | (refine optK_of (hDA (by omega)) ?_; conv => whnf) | (refine optK_of (hDA' (by omega)) ?_; conv => whnf) | (refine optK_of (gutA (by omega)) ?_; conv => whnf) | (refine optK_of (pipeA (by omega)) ?_; conv => whnf) | (refine optK_of (pipeB (by omega)) ?_; conv => whnf) | (refine optK_of (pipeSA (by omega)) ?_; conv => whnf) | (refine optK_of (pipeSB (by omega)) ?_; conv => whnf) | (refine optK_of (intA (by omega)) ?_; conv => whnf) | (refine optK_of (intA' (by omega)) ?_; conv => whnf) | (refine optK_of (upA (by omega)) ?_; conv => whnf))
  cases h1 : decide ((k : Int) < (xs.length : Int))
  case true =>
    have hkn : k < xs.length := by simpa using h1
    have hwk := hw.t k (by omega)
    have hxk := hx.t k hkn
    have ex : IntKind.i32.wrap (ix xs k) = ix xs k := w32 (by omega) (by omega)
    conv => whnf
    repeat (first | (refine And.intro (by first | exact Nat.le_of_ble_eq_true rfl | exact rfl | decide | omega | (simp [splice]; done) | (constructor <;> omega) | (simp [splice]; omega)) ?_; conv => whnf) | (refine optK_of (watA (by omega)) ?_; conv => whnf) | (refine optK_of (watA' (by omega)) ?_; conv => whnf) | (refine optK_of (watP (by omega) (by omega)) ?_; conv => whnf) | (refine optK_of (hDA (by omega)) ?_; conv => whnf) | (refine optK_of (hDA' (by omega)) ?_; conv => whnf) | (refine optK_of (gutA (by omega)) ?_; conv => whnf) | (refine optK_of (pipeA (by omega)) ?_; conv => whnf) | (refine optK_of (pipeB (by omega)) ?_; conv => whnf) | (refine optK_of (pipeSA (by omega)) ?_; conv => whnf) | (refine optK_of (pipeSB (by omega)) ?_; conv => whnf) | (refine optK_of (intA (by omega)) ?_; conv => whnf) | (refine optK_of (intA' (by omega)) ?_; conv => whnf) | (refine optK_of (upA (by omega)) ?_; conv => whnf))
    have setA : (watC (wR w xs k)).set (0 + (k : Int).toNat * 1) (.int .i32 (IntKind.i32.wrap (wR w xs k k + IntKind.i32.wrap (ix xs k)))) = watC (wR w xs (k + 1)) := by
      rw [ex, wR_at, w32 (by omega) (by omega), wat_set (c := k) (by simp), wR_put]
    refine ⟨k + 1, ?_, ?_, sim_of (rn := [((3, 0, 0), (3, 0, 0)), ((4, 0, 0), (4, 0, 0)), ((6, 0, 0), (6, 0, 0))]) rfl ?_ ?_⟩
    · (dsimp only; omega)
    · first | omega | (dsimp only; omega) | ((repeat' apply And.intro) <;> omega) | (dsimp only; (repeat' apply And.intro) <;> omega) | trivial
    · ((repeat' (first | exact trivial | apply And.intro)) <;> (first | rfl | exact succ8 (by omega) | exact succ64 (by omega) | exact CapOk.fn (by assumption) _ _ | exact vintS (by omega) | exact vintS (by rw [w64 (by omega) (by omega)]; omega) | exact vintS (by rw [w8 (by omega) (by omega)]; omega) | exact vslcS (by omega) | exact vslcS (by simp)))
    · ((repeat' (first | exact trivial | apply And.intro)) <;> (refine ⟨_, _, rfl, rfl, ?_⟩; first | rfl | (exact cset setA)))
  have hkn : k = g.n.toNat := by simp at h1; omega
  subst hkn
  have hw1 : W17 2000 (wR w xs g.n.toNat) := wR_in hw hx.t (by omega)
  clear h1
  have htk : ∀ i, i ≤ g.ps.length → 0 ≤ tP g (wR w xs g.n.toNat) i ∧ tP g (wR w xs g.n.toNat) i ≤ 8000 := fun i hi => by have := tP_in ho hw1 i hi; omega
  generalize hwe : wR w xs g.n.toNat = w1 at *
  conv => whnf
  repeat (first | (refine And.intro (by first | exact Nat.le_of_ble_eq_true rfl | exact rfl | decide | omega | (simp [splice]; done) | (constructor <;> omega) | (simp [splice]; omega)) ?_; conv => whnf) | (refine optK_of (watA (by omega)) ?_; conv => whnf) | (refine optK_of (watA' (by omega)) ?_; conv => whnf) | (refine optK_of (watP (by omega) (by omega)) ?_; conv => whnf) | (refine optK_of (hDA (by omega)) ?_; conv => whnf) | (refine optK_of (hDA' (by omega)) ?_; conv => whnf) | (refine optK_of (gutA (by omega)) ?_; conv => whnf) | (refine optK_of (pipeA (by omega)) ?_; conv => whnf) | (refine optK_of (pipeB (by omega)) ?_; conv => whnf) | (refine optK_of (pipeSA (by omega)) ?_; conv => whnf) | (refine optK_of (pipeSB (by omega)) ?_; conv => whnf) | (refine optK_of (intA (by omega)) ?_; conv => whnf) | (refine optK_of (intA' (by omega)) ?_; conv => whnf) | (refine optK_of (upA (by omega)) ?_; conv => whnf))
  refine loop_rule (α := Nat) (fun i => [(3, .ptr (3, 0, 0) 0), (4, .ptr (4, 0, 0) 0), (6, .ptr (6, 0, 0) 0), (11, .v (.int .i64 (tP g w1 i))), (12, .v (.int .i64 0)), (39, pipesD false g.ps), (40, .v (.int .i64 g.ps.length)), (41, .v (.int .i64 i))]) (fun i => [((3, 0, 0), gutD false g), ((4, 0, 0), watD (wP g w1 i)), ((6, 0, 0), watD (fun _ => 0))]) (fun i => i ≤ g.ps.length) (fun i => g.ps.length - i) (0) ?_ (sim_of (rn := [((3, 0, 0), (3, 0, 0)), ((4, 0, 0), (4, 0, 0)), ((6, 0, 0), (6, 0, 0))]) rfl ?_ ?_) ?_
  · first | omega | (dsimp only; omega) | ((repeat' apply And.intro) <;> omega) | (dsimp only; (repeat' apply And.intro) <;> omega) | trivial
  · ((repeat' (first | exact trivial | apply And.intro)) <;> (first | rfl | exact succ8 (by omega) | exact succ64 (by omega) | exact CapOk.fn (by assumption) _ _ | exact vintS (by omega) | exact vintS (by rw [w64 (by omega) (by omega)]; omega) | exact vintS (by rw [w8 (by omega) (by omega)]; omega) | exact vslcS (by omega) | exact vslcS (by simp)))
  · ((repeat' (first | exact trivial | apply And.intro)) <;> (refine ⟨_, _, rfl, rfl, ?_⟩; first | rfl | (rfl)))
  intro i hi
  conv => whnf
  repeat (first | (refine And.intro (by first | exact Nat.le_of_ble_eq_true rfl | exact rfl | decide | omega | (simp [splice]; done) | (constructor <;> omega) | (simp [splice]; omega)) ?_; conv => whnf) | (refine optK_of (watA (by omega)) ?_; conv => whnf) | (refine optK_of (watA' (by omega)) ?_; conv => whnf) | (refine optK_of (watP (by omega) (by omega)) ?_; conv => whnf) | (refine optK_of (hDA (by omega)) ?_; conv => whnf) | (refine optK_of (hDA' (by omega)) ?_; conv => whnf) | (refine optK_of (gutA (by omega)) ?_; conv => whnf) | (refine optK_of (pipeA (by omega)) ?_; conv => whnf) | (refine optK_of (pipeB (by omega)) ?_; conv => whnf) | (refine optK_of (pipeSA (by omega)) ?_; conv => whnf) | (refine optK_of (pipeSB (by omega)) ?_; conv => whnf) | (refine optK_of (intA (by omega)) ?_; conv => whnf) | (refine optK_of (intA' (by omega)) ?_; conv => whnf) | (refine optK_of (upA (by omega)) ?_; conv => whnf))
  cases h1 : decide ((i : Int) < (g.ps.length : Int))
  case true =>
    have hin : i < g.ps.length := by simpa using h1
    have hp := ho.ps i hin
    have hwi := (wP_in ho hw1 i hi).t (px g.ps i).1.toNat (by omega)
    have hti := htk i hi
    have hti1 := htk (i + 1) hin
    have ex : IntKind.i32.wrap (px g.ps i).2 = (px g.ps i).2 := w32 (by omega) (by omega)
    have hm1 := minI_le (wP g w1 i (px g.ps i).1.toNat) (px g.ps i).2
    have hm2 := minI_ge hwi.1 hp.2.1
    conv => whnf
    repeat (first | (refine And.intro (by first | exact Nat.le_of_ble_eq_true rfl | exact rfl | decide | omega | (simp [splice]; done) | (constructor <;> omega) | (simp [splice]; omega)) ?_; conv => whnf) | (refine optK_of (watA (by omega)) ?_; conv => whnf) | (refine optK_of (watA' (by omega)) ?_; conv => whnf) | (refine optK_of (watP (by omega) (by omega)) ?_; conv => whnf) | (refine optK_of (hDA (by omega)) ?_; conv => whnf) | (refine optK_of (hDA' (by omega)) ?_; conv => whnf) | (refine optK_of (gutA (by omega)) ?_; conv => whnf) | (refine optK_of (pipeA (by omega)) ?_; conv => whnf) | (refine optK_of (pipeB (by omega)) ?_; conv => whnf) | (refine optK_of (pipeSA (by omega)) ?_; conv => whnf) | (refine optK_of (pipeSB (by omega)) ?_; conv => whnf) | (refine optK_of (intA (by omega)) ?_; conv => whnf) | (refine optK_of (intA' (by omega)) ?_; conv => whnf) | (refine optK_of (upA (by omega)) ?_; conv => whnf))
    rw [ex]
    rw [show (if (px g.ps i).2 < wP g w1 i (px g.ps i).1.toNat then (px g.ps i).2 else wP g w1 i (px g.ps i).1.toNat) = minI (wP g w1 i (px g.ps i).1.toNat) (px g.ps i).2 from rfl]
    repeat (first | (refine And.intro (by first | exact Nat.le_of_ble_eq_true rfl | exact rfl | decide | omega | (simp [splice]; done) | (constructor <;> omega) | (simp [splice]; omega)) ?_; conv => whnf) | (refine optK_of (watA (by omega)) ?_; conv => whnf) | (refine optK_of (watA' (by omega)) ?_; conv => whnf) | (refine optK_of (watP (by omega) (by omega)) ?_; conv => whnf) | (refine optK_of (hDA (by omega)) ?_; conv => whnf) | (refine optK_of (hDA' (by omega)) ?_; conv => whnf) | (refine optK_of (gutA (by omega)) ?_; conv => whnf) | (refine optK_of (pipeA (by omega)) ?_; conv => whnf) | (refine optK_of (pipeB (by omega)) ?_; conv => whnf) | (refine optK_of (pipeSA (by omega)) ?_; conv => whnf) | (refine optK_of (pipeSB (by omega)) ?_; conv => whnf) | (refine optK_of (intA (by omega)) ?_; conv => whnf) | (refine optK_of (intA' (by omega)) ?_; conv => whnf) | (refine optK_of (upA (by omega)) ?_; conv => whnf))
    have setA : (watC (wP g w1 i)).set (0 + (px g.ps i).1.toNat * 1) (.int .i32 (IntKind.i32.wrap (wP g w1 i (px g.ps i).1.toNat - minI (wP g w1 i (px g.ps i).1.toNat) (px g.ps i).2))) = watC (wP g w1 (i + 1)) := by
      rw [w32 (by omega) (by omega), wat_set (c := (px g.ps i).1.toNat) (by simp)]; rfl
    have eT : tP g w1 (i + 1) = IntKind.i64.wrap (tP g w1 i + IntKind.i64.wrap (minI (wP g w1 i (px g.ps i).1.toNat) (px g.ps i).2)) := by
      rw [w64 (n := minI _ _) (by omega) (by omega)]
      simp only [tP] at hti1 ⊢
      rw [w64 (by omega) (by omega)]
    refine ⟨i + 1, ?_, ?_, sim_of (rn := [((3, 0, 0), (3, 0, 0)), ((4, 0, 0), (4, 0, 0)), ((6, 0, 0), (6, 0, 0))]) rfl ?_ ?_⟩
    · (dsimp only; omega)
    · first | omega | (dsimp only; omega) | ((repeat' apply And.intro) <;> omega) | (dsimp only; (repeat' apply And.intro) <;> omega) | trivial
    · ((repeat' (first | exact trivial | apply And.intro)) <;> (first | rfl | (exact vintS eT) | exact succ8 (by omega) | exact succ64 (by omega) | exact CapOk.fn (by assumption) _ _ | exact vintS (by omega) | exact vintS (by rw [w64 (by omega) (by omega)]; omega) | exact vintS (by rw [w8 (by omega) (by omega)]; omega) | exact vslcS (by omega) | exact vslcS (by simp)))
    · ((repeat' (first | exact trivial | apply And.intro)) <;> (refine ⟨_, _, rfl, rfl, ?_⟩; first | rfl | (exact cset setA)))
  have hin : i = g.ps.length := by simp at h1; omega
  subst hin
  have hw2 : W17 2000 (wP g w1 g.ps.length) := wP_in ho hw1 _ (Nat.le_refl _)
  have e2 : wP g w1 g.ps.length = minF g w xs := by unfold minF; rw [hwe]
  have eT : tP g w1 g.ps.length = minT g w xs := by unfold minT; rw [hwe]
  rw [eT]
  rw [e2] at hw2 ⊢
  clear h1 htk
  conv => whnf
  repeat (first | (refine And.intro (by first | exact Nat.le_of_ble_eq_true rfl | exact rfl | decide | omega | (simp [splice]; done) | (constructor <;> omega) | (simp [splice]; omega)) ?_; conv => whnf) | (refine optK_of (watA (by omega)) ?_; conv => whnf) | (refine optK_of (watA' (by omega)) ?_; conv => whnf) | (refine optK_of (watP (by omega) (by omega)) ?_; conv => whnf) | (refine optK_of (hDA (by omega)) ?_; conv => whnf) | (refine optK_of (hDA' (by omega)) ?_; conv => whnf) | (refine optK_of (gutA (by omega)) ?_; conv => whnf) | (refine optK_of (pipeA (by omega)) ?_; conv => whnf) | (refine optK_of (pipeB (by omega)) ?_; conv => whnf) | (refine optK_of (pipeSA (by omega)) ?_; conv => whnf) | (refine optK_of (pipeSB (by omega)) ?_; conv => whnf) | (refine optK_of (intA (by omega)) ?_; conv => whnf) | (refine optK_of (intA' (by omega)) ?_; conv => whnf) | (refine optK_of (upA (by omega)) ?_; conv => whnf))
  first | refine ⟨_, _, rfl, Sat.of_eq (gcells_sat g ho) (by repeat (first | rfl | exact vfull (by first | (simp [splice]; done) | (simp [splice]; omega)) | exact rfull (by first | (simp [splice]; done) | (simp [splice]; omega)) | exact vpipe (by simp; done) (by omega) | exact vsplice (by simp) (by simp) | refine ceq ?_ ?_ | refine Eq.trans (vsplice (by first | (simp; done) | (simp; omega)) (by first | (simp; done) | (simp; omega))) ?_)), ?_⟩ | refine .inl ⟨_, _, rfl, Sat.of_eq (gcells_sat g ho) (by repeat (first | rfl | exact vfull (by first | (simp [splice]; done) | (simp [splice]; omega)) | exact rfull (by first | (simp [splice]; done) | (simp [splice]; omega)) | exact vpipe (by simp; done) (by omega) | exact vsplice (by simp) (by simp) | refine ceq ?_ ?_ | refine Eq.trans (vsplice (by first | (simp; done) | (simp; omega)) (by first | (simp; done) | (simp; omega))) ?_)), ?_⟩
  conv => whnf
  repeat (first | (refine And.intro (by first | exact Nat.le_of_ble_eq_true rfl | exact rfl | decide | omega | (simp [splice]; done) | (constructor <;> omega) | (simp [splice]; omega)) ?_; conv => whnf) | (refine optK_of (watA (by omega)) ?_; conv => whnf) | (refine optK_of (watA' (by omega)) ?_; conv => whnf) | (refine optK_of (watP (by omega) (by omega)) ?_; conv => whnf) | (refine optK_of (hDA (by omega)) ?_; conv => whnf) | (refine optK_of (hDA' (by omega)) ?_; conv => whnf) | (refine optK_of (gutA (by omega)) ?_; conv => whnf) | (refine optK_of (pipeA (by omega)) ?_; conv => whnf) | (refine optK_of (pipeB (by omega)) ?_; conv => whnf) | (refine optK_of (pipeSA (by omega)) ?_; conv => whnf) | (refine optK_of (pipeSB (by omega)) ?_; conv => whnf) | (refine optK_of (intA (by omega)) ?_; conv => whnf) | (refine optK_of (intA' (by omega)) ?_; conv => whnf) | (refine optK_of (upA (by omega)) ?_; conv => whnf))
  unfold minW minO
  generalize minF g w xs = w2 at *
  generalize minT g w xs = tt0 at *
  refine loop_rule (α := Nat) (fun k => [(3, .ptr (3, 0, 0) 0), (4, .ptr (4, 0, 0) 0), (6, .ptr (6, 0, 0) 0), (11, .v (.int .i64 tt0)), (12, .v (.int .i64 0)), (16, .ptr (16, 0, 0) 0), (66, .slc true 1 (66, 0, 0) 0 g.n.toNat), (67, .v (.int .i64 g.n.toNat)), (68, .v (.int .i64 k))]) (fun k => [((3, 0, 0), gutD false g), ((4, 0, 0), watD w2), ((6, 0, 0), watD (fun _ => 0)), ((16, 0, 0), watD (oK g w2 k)), ((66, 0, 0), .v (.agg ⟨intsC (upL g.n.toNat)⟩))]) (fun k => k ≤ g.n.toNat) (fun k => g.n.toNat - k) (0) ?_ (sim_of (rn := [((3, 0, 0), (3, 0, 0)), ((4, 0, 0), (4, 0, 0)), ((6, 0, 0), (6, 0, 0)), ((16, 0, 0), (16, 1, 0)), ((66, 0, 0), (66, 1, 0))]) rfl ?_ ?_) ?_
  · first | omega | (dsimp only; omega) | ((repeat' apply And.intro) <;> omega) | (dsimp only; (repeat' apply And.intro) <;> omega) | trivial
  · ((repeat' (first | exact trivial | apply And.intro)) <;> (first | rfl | (first | exact vslcS (upL_len _) | exact vslcS (upL_len _).symm | exact vintS (congrArg Int.ofNat (upL_len _)) | exact vintS (congrArg Int.ofNat (upL_len _).symm)) | exact succ8 (by omega) | exact succ64 (by omega) | exact CapOk.fn (by assumption) _ _ | exact vintS (by omega) | exact vintS (by rw [w64 (by omega) (by omega)]; omega) | exact vintS (by rw [w8 (by omega) (by omega)]; omega) | exact vslcS (by omega) | exact vslcS (by simp)))
  · ((repeat' (first | exact trivial | apply And.intro)) <;> (refine ⟨_, _, rfl, rfl, ?_⟩; first | rfl | (exact cset (e17.symm.trans (congrArg watC (show (fun _ => (0 : Int)) = oK g w2 0 from rfl))))))
  intro k hk
  have hok := oK_in ho hw2 k (by omega)
  conv => whnf
  repeat (first | (refine And.intro (by first | exact Nat.le_of_ble_eq_true rfl | exact rfl | decide | omega | (simp [splice]; done) | (constructor <;> omega) | (simp [splice]; omega)) ?_; conv => whnf) | (refine optK_of (watA (by omega)) ?_; conv => whnf) | (refine optK_of (watA' (by omega)) ?_; conv => whnf) | (refine optK_of (watP (by omega) (by omega)) ?_; conv => whnf) | (refine optK_of (hDA (by omega)) ?_; conv => whnf) | (refine optK_of (hDA' (by omega)) ?_; conv => whnf) | (refine optK_of (gutA (by omega)) ?_; conv => whnf) | (refine optK_of (pipeA (by omega)) ?_; conv => whnf) | (refine optK_of (pipeB (by omega)) ?_; conv => whnf) | (refine optK_of (pipeSA (by omega)) ?_; conv => whnf) | (refine optK_of (pipeSB (by omega)) ?_; conv => whnf) | (refine optK_of (intA (by omega)) ?_; conv => whnf) | (refine optK_of (intA' (by omega)) ?_; conv => whnf) | (refine optK_of (upA (by omega)) ?_; conv => whnf))
  cases h1 : decide ((k : Int) < (g.n.toNat : Int))
  case true =>
    have hkn : k < g.n.toNat := by simp at h1; omega
    have hwk := hw2.t k (by omega)
    have htr := toP_range (g := g) (c := k) (by omega)
    have htt := tgt_lt (g := g) (c := k) (by omega)
    have hot := hok.t (tgt g k) (by omega)
    have ew : ∀ x : Int, 0 ≤ x → x ≤ 34000 → IntKind.i32.wrap (x + w2 k) = x + w2 k := fun x h1 h2 => w32 (by omega) (by omega)
    conv => whnf
    repeat (first | (refine And.intro (by first | exact Nat.le_of_ble_eq_true rfl | exact rfl | decide | omega | (simp [splice]; done) | (constructor <;> omega) | (simp [splice]; omega)) ?_; conv => whnf) | (refine optK_of (watA (by omega)) ?_; conv => whnf) | (refine optK_of (watA' (by omega)) ?_; conv => whnf) | (refine optK_of (watP (by omega) (by omega)) ?_; conv => whnf) | (refine optK_of (hDA (by omega)) ?_; conv => whnf) | (refine optK_of (hDA' (by omega)) ?_; conv => whnf) | (refine optK_of (gutA (by omega)) ?_; conv => whnf) | (refine optK_of (pipeA (by omega)) ?_; conv => whnf) | (refine optK_of (pipeB (by omega)) ?_; conv => whnf) | (refine optK_of (pipeSA (by omega)) ?_; conv => whnf) | (refine optK_of (pipeSB (by omega)) ?_; conv => whnf) | (refine optK_of (intA (by omega)) ?_; conv => whnf) | (refine optK_of (intA' (by omega)) ?_; conv => whnf) | (refine optK_of (upA (by omega)) ?_; conv => whnf))
    first | refine ⟨_, _, rfl, Sat.of_eq (flowsTo_sat g hg ho k (by omega)) (by repeat (first | rfl | exact vfull (by first | (simp [splice]; done) | (simp [splice]; omega)) | exact rfull (by first | (simp [splice]; done) | (simp [splice]; omega)) | exact vpipe (by simp; done) (by omega) | exact vsplice (by simp) (by simp) | refine ceq ?_ ?_ | refine Eq.trans (vsplice (by first | (simp; done) | (simp; omega)) (by first | (simp; done) | (simp; omega))) ?_)), ?_⟩ | refine .inl ⟨_, _, rfl, Sat.of_eq (flowsTo_sat g hg ho k (by omega)) (by repeat (first | rfl | exact vfull (by first | (simp [splice]; done) | (simp [splice]; omega)) | exact rfull (by first | (simp [splice]; done) | (simp [splice]; omega)) | exact vpipe (by simp; done) (by omega) | exact vsplice (by simp) (by simp) | refine ceq ?_ ?_ | refine Eq.trans (vsplice (by first | (simp; done) | (simp; omega)) (by first | (simp; done) | (simp; omega))) ?_)), ?_⟩
    conv => whnf
    repeat (first | (refine And.intro (by first | exact Nat.le_of_ble_eq_true rfl | exact rfl | decide | omega | (simp [splice]; done) | (constructor <;> omega) | (simp [splice]; omega)) ?_; conv => whnf) | (refine optK_of (watA (by omega)) ?_; conv => whnf) | (refine optK_of (watA' (by omega)) ?_; conv => whnf) | (refine optK_of (watP (by omega) (by omega)) ?_; conv => whnf) | (refine optK_of (hDA (by omega)) ?_; conv => whnf) | (refine optK_of (hDA' (by omega)) ?_; conv => whnf) | (refine optK_of (gutA (by omega)) ?_; conv => whnf) | (refine optK_of (pipeA (by omega)) ?_; conv => whnf) | (refine optK_of (pipeB (by omega)) ?_; conv => whnf) | (refine optK_of (pipeSA (by omega)) ?_; conv => whnf) | (refine optK_of (pipeSB (by omega)) ?_; conv => whnf) | (refine optK_of (intA (by omega)) ?_; conv => whnf) | (refine optK_of (intA' (by omega)) ?_; conv => whnf) | (refine optK_of (upA (by omega)) ?_; conv => whnf))
    cases h3 : (toP g k != -1)
    · have h3' : toP g k = -1 := by simpa using h3
      have et : tgt g k = k := by unfold tgt; rw [if_pos (by omega)]
      rw [et] at hot
      conv => whnf
      repeat (first | (refine And.intro (by first | exact Nat.le_of_ble_eq_true rfl | exact rfl | decide | omega | (simp [splice]; done) | (constructor <;> omega) | (simp [splice]; omega)) ?_; conv => whnf) | (refine optK_of (watA (by omega)) ?_; conv => whnf) | (refine optK_of (watA' (by omega)) ?_; conv => whnf) | (refine optK_of (watP (by omega) (by omega)) ?_; conv => whnf) | (refine optK_of (hDA (by omega)) ?_; conv => whnf) | (refine optK_of (hDA' (by omega)) ?_; conv => whnf) | (refine optK_of (gutA (by omega)) ?_; conv => whnf) | (refine optK_of (pipeA (by omega)) ?_; conv => whnf) | (refine optK_of (pipeB (by omega)) ?_; conv => whnf) | (refine optK_of (pipeSA (by omega)) ?_; conv => whnf) | (refine optK_of (pipeSB (by omega)) ?_; conv => whnf) | (refine optK_of (intA (by omega)) ?_; conv => whnf) | (refine optK_of (intA' (by omega)) ?_; conv => whnf) | (refine optK_of (upA (by omega)) ?_; conv => whnf))
      have setA : (watC (oK g w2 k)).set (0 + (k : Int).toNat * 1) (.int .i32 (IntKind.i32.wrap (oK g w2 k k + w2 k))) = watC (oK g w2 (k + 1)) := by
        rw [ew _ hot.1 (by omega), wat_set (c := k) (by simp)]
        simp only [oK]
        rw [et]
      refine ⟨k + 1, ?_, ?_, sim_of (rn := [((3, 0, 0), (3, 0, 0)), ((4, 0, 0), (4, 0, 0)), ((6, 0, 0), (6, 0, 0)), ((16, 0, 0), (16, 0, 0)), ((66, 0, 0), (66, 0, 0))]) rfl ?_ ?_⟩
      · (dsimp only; omega)
      · first | omega | (dsimp only; omega) | ((repeat' apply And.intro) <;> omega) | (dsimp only; (repeat' apply And.intro) <;> omega) | trivial
      · ((repeat' (first | exact trivial | apply And.intro)) <;> (first | rfl | exact succ8 (by omega) | exact succ64 (by omega) | exact CapOk.fn (by assumption) _ _ | exact vintS (by omega) | exact vintS (by rw [w64 (by omega) (by omega)]; omega) | exact vintS (by rw [w8 (by omega) (by omega)]; omega) | exact vslcS (by omega) | exact vslcS (by simp)))
      · ((repeat' (first | exact trivial | apply And.intro)) <;> (refine ⟨_, _, rfl, rfl, ?_⟩; first | rfl | (exact cset setA)))
    have h3' : ¬ toP g k = -1 := by simpa using h3
    have et : tgt g k = (toP g k).toNat := by unfold tgt; rw [if_neg (by omega)]
    rw [et] at hot
    have h0 : 0 ≤ toP g k := by omega
    have h17 : toP g k < 17 := by omega
    conv => whnf
    repeat (first | (refine And.intro (by first | exact Nat.le_of_ble_eq_true rfl | exact rfl | decide | omega | (simp [splice]; done) | (constructor <;> omega) | (simp [splice]; omega)) ?_; conv => whnf) | (refine optK_of (watA (by omega)) ?_; conv => whnf) | (refine optK_of (watA' (by omega)) ?_; conv => whnf) | (refine optK_of (watP (by omega) (by omega)) ?_; conv => whnf) | (refine optK_of (hDA (by omega)) ?_; conv => whnf) | (refine optK_of (hDA' (by omega)) ?_; conv => whnf) | (refine optK_of (gutA (by omega)) ?_; conv => whnf) | (refine optK_of (pipeA (by omega)) ?_; conv => whnf) | (refine optK_of (pipeB (by omega)) ?_; conv => whnf) | (refine optK_of (pipeSA (by omega)) ?_; conv => whnf) | (refine optK_of (pipeSB (by omega)) ?_; conv => whnf) | (refine optK_of (intA (by omega)) ?_; conv => whnf) | (refine optK_of (intA' (by omega)) ?_; conv => whnf) | (refine optK_of (upA (by omega)) ?_; conv => whnf))
    have setA : (watC (oK g w2 k)).set (0 + (toP g k).toNat * 1) (.int .i32 (IntKind.i32.wrap (oK g w2 k (toP g k).toNat + w2 k))) = watC (oK g w2 (k + 1)) := by
      rw [ew _ hot.1 (by omega), wat_set (c := (toP g k).toNat) (by simp)]
      simp only [oK]
      rw [et]
    refine ⟨k + 1, ?_, ?_, sim_of (rn := [((3, 0, 0), (3, 0, 0)), ((4, 0, 0), (4, 0, 0)), ((6, 0, 0), (6, 0, 0)), ((16, 0, 0), (16, 0, 0)), ((66, 0, 0), (66, 0, 0))]) rfl ?_ ?_⟩
    · (dsimp only; omega)
    · first | omega | (dsimp only; omega) | ((repeat' apply And.intro) <;> omega) | (dsimp only; (repeat' apply And.intro) <;> omega) | trivial
    · ((repeat' (first | exact trivial | apply And.intro)) <;> (first | rfl | exact succ8 (by omega) | exact succ64 (by omega) | exact CapOk.fn (by assumption) _ _ | exact vintS (by omega) | exact vintS (by rw [w64 (by omega) (by omega)]; omega) | exact vintS (by rw [w8 (by omega) (by omega)]; omega) | exact vslcS (by omega) | exact vslcS (by simp)))
    · ((repeat' (first | exact trivial | apply And.intro)) <;> (refine ⟨_, _, rfl, rfl, ?_⟩; first | rfl | (exact cset setA)))
  have hkn : k = g.n.toNat := by simp at h1; omega
  subst hkn
  have ho17 : W17 34000 (oK g w2 g.n.toNat) := ⟨fun j hj => by have := hok.t j hj; omega⟩
  clear h1 hok
  generalize oK g w2 g.n.toNat = o at *
  conv => whnf
  repeat (first | (refine And.intro (by first | exact Nat.le_of_ble_eq_true rfl | exact rfl | decide | omega | (simp [splice]; done) | (constructor <;> omega) | (simp [splice]; omega)) ?_; conv => whnf) | (refine optK_of (watA (by omega)) ?_; conv => whnf) | (refine optK_of (watA' (by omega)) ?_; conv => whnf) | (refine optK_of (watP (by omega) (by omega)) ?_; conv => whnf) | (refine optK_of (hDA (by omega)) ?_; conv => whnf) | (refine optK_of (hDA' (by omega)) ?_; conv => whnf) | (refine optK_of (gutA (by omega)) ?_; conv => whnf) | (refine optK_of (pipeA (by omega)) ?_; conv => whnf) | (refine optK_of (pipeB (by omega)) ?_; conv => whnf) | (refine optK_of (pipeSA (by omega)) ?_; conv => whnf) | (refine optK_of (pipeSB (by omega)) ?_; conv => whnf) | (refine optK_of (intA (by omega)) ?_; conv => whnf) | (refine optK_of (intA' (by omega)) ?_; conv => whnf) | (refine optK_of (upA (by omega)) ?_; conv => whnf))
  refine loop_rule (α := Nat) (fun k => [(3, .ptr (3, 0, 0) 0), (6, .ptr (6, 0, 0) 0), (11, .v (.int .i64 tt0)), (12, .v (.int .i64 (ovK g.dp o k))), (16, .ptr (16, 0, 0) 0), (94, watD o), (95, .v (.int .i64 k))]) (fun k => [((3, 0, 0), gutD false g), ((6, 0, 0), watD (fun _ => 0)), ((16, 0, 0), watD (cutW g.dp o k))]) (fun k => k ≤ 17) (fun k => 17 - k) (0) ?_ (sim_of (rn := [((3, 0, 0), (3, 0, 0)), ((6, 0, 0), (6, 0, 0)), ((16, 0, 0), (16, 0, 0))]) rfl ?_ ?_) ?_
  · first | omega | (dsimp only; omega) | ((repeat' apply And.intro) <;> omega) | (dsimp only; (repeat' apply And.intro) <;> omega) | trivial
  · ((repeat' (first | exact trivial | apply And.intro)) <;> (first | rfl | (first | exact vfullS (by simp) | exact (vfullS (by simp)).symm) | exact succ8 (by omega) | exact succ64 (by omega) | exact CapOk.fn (by assumption) _ _ | exact vintS (by omega) | exact vintS (by rw [w64 (by omega) (by omega)]; omega) | exact vintS (by rw [w8 (by omega) (by omega)]; omega) | exact vslcS (by omega) | exact vslcS (by simp)))
  · ((repeat' (first | exact trivial | apply And.intro)) <;> (refine ⟨_, _, rfl, rfl, ?_⟩; first | rfl | (exact cset (by rw [cutW_zero]))))
  intro k hk
  have hov := ovK_in hdp.1 (by omega) ho17 k hk
  conv => whnf
  repeat (first | (refine And.intro (by first | exact Nat.le_of_ble_eq_true rfl | exact rfl | decide | omega | (simp [splice]; done) | (constructor <;> omega) | (simp [splice]; omega)) ?_; conv => whnf) | (refine optK_of (watA (by omega)) ?_; conv => whnf) | (refine optK_of (watA' (by omega)) ?_; conv => whnf) | (refine optK_of (watP (by omega) (by omega)) ?_; conv => whnf) | (refine optK_of (hDA (by omega)) ?_; conv => whnf) | (refine optK_of (hDA' (by omega)) ?_; conv => whnf) | (refine optK_of (gutA (by omega)) ?_; conv => whnf) | (refine optK_of (pipeA (by omega)) ?_; conv => whnf) | (refine optK_of (pipeB (by omega)) ?_; conv => whnf) | (refine optK_of (pipeSA (by omega)) ?_; conv => whnf) | (refine optK_of (pipeSB (by omega)) ?_; conv => whnf) | (refine optK_of (intA (by omega)) ?_; conv => whnf) | (refine optK_of (intA' (by omega)) ?_; conv => whnf) | (refine optK_of (upA (by omega)) ?_; conv => whnf))
  cases h1 : decide ((k : Int) < 17)
  · have hk17 : k = 17 := by simp at h1; omega
    subst hk17
    conv => whnf
    repeat (first | (refine And.intro (by first | exact Nat.le_of_ble_eq_true rfl | exact rfl | decide | omega | (simp [splice]; done) | (constructor <;> omega) | (simp [splice]; omega)) ?_; conv => whnf) | (refine optK_of (watA (by omega)) ?_; conv => whnf) | (refine optK_of (watA' (by omega)) ?_; conv => whnf) | (refine optK_of (watP (by omega) (by omega)) ?_; conv => whnf) | (refine optK_of (hDA (by omega)) ?_; conv => whnf) | (refine optK_of (hDA' (by omega)) ?_; conv => whnf) | (refine optK_of (gutA (by omega)) ?_; conv => whnf) | (refine optK_of (pipeA (by omega)) ?_; conv => whnf) | (refine optK_of (pipeB (by omega)) ?_; conv => whnf) | (refine optK_of (pipeSA (by omega)) ?_; conv => whnf) | (refine optK_of (pipeSB (by omega)) ?_; conv => whnf) | (refine optK_of (intA (by omega)) ?_; conv => whnf) | (refine optK_of (intA' (by omega)) ?_; conv => whnf) | (refine optK_of (upA (by omega)) ?_; conv => whnf))
    first | refine ⟨rfl, _, rfl, ?_⟩ | refine ⟨_, rfl, ?_⟩
    skip
    exact congrArg (fun l => D.tup [.v (.agg ⟨l⟩), .v (.int .i64 tt0), .v (.int .i64 (ovK g.dp o 17))]) (by
      rw [show watC (cutW g.dp o 17) = watC (fun j => cut1 g.dp (o j)) from watC_congr fun j hj => by unfold cutW; rw [if_pos hj]]
      exact end17 (by simp) (by simp))
  have hk17 : k < 17 := by simp at h1; omega
  have hok := ho17.t k hk17
  have ex : IntKind.i32.wrap (o k - g.dp) = o k - g.dp := w32 (by omega) (by omega)
  conv => whnf
  repeat (first | (refine And.intro (by first | exact Nat.le_of_ble_eq_true rfl | exact rfl | decide | omega | (simp [splice]; done) | (constructor <;> omega) | (simp [splice]; omega)) ?_; conv => whnf) | (refine optK_of (watA (by omega)) ?_; conv => whnf) | (refine optK_of (watA' (by omega)) ?_; conv => whnf) | (refine optK_of (watP (by omega) (by omega)) ?_; conv => whnf) | (refine optK_of (hDA (by omega)) ?_; conv => whnf) | (refine optK_of (hDA' (by omega)) ?_; conv => whnf) | (refine optK_of (gutA (by omega)) ?_; conv => whnf) | (refine optK_of (pipeA (by omega)) ?_; conv => whnf) | (refine optK_of (pipeB (by omega)) ?_; conv => whnf) | (refine optK_of (pipeSA (by omega)) ?_; conv => whnf) | (refine optK_of (pipeSB (by omega)) ?_; conv => whnf) | (refine optK_of (intA (by omega)) ?_; conv => whnf) | (refine optK_of (intA' (by omega)) ?_; conv => whnf) | (refine optK_of (upA (by omega)) ?_; conv => whnf))
  rw [ed, ex]
  cases h2 : decide (o k - g.dp > 0)
  · have h2' : ¬ o k - g.dp > 0 := by simpa using h2
    have eo : ovK g.dp o (k + 1) = ovK g.dp o k := by simp only [ovK]; unfold over1; rw [if_neg h2']; omega
    have ec : watC (cutW g.dp o k) = watC (cutW g.dp o (k + 1)) := by rw [cutW_keep h2']
    conv => whnf
    repeat (first | (refine And.intro (by first | exact Nat.le_of_ble_eq_true rfl | exact rfl | decide | omega | (simp [splice]; done) | (constructor <;> omega) | (simp [splice]; omega)) ?_; conv => whnf) | (refine optK_of (watA (by omega)) ?_; conv => whnf) | (refine optK_of (watA' (by omega)) ?_; conv => whnf) | (refine optK_of (watP (by omega) (by omega)) ?_; conv => whnf) | (refine optK_of (hDA (by omega)) ?_; conv => whnf) | (refine optK_of (hDA' (by omega)) ?_; conv => whnf) | (refine optK_of (gutA (by omega)) ?_; conv => whnf) | (refine optK_of (pipeA (by omega)) ?_; conv => whnf) | (refine optK_of (pipeB (by omega)) ?_; conv => whnf) | (refine optK_of (pipeSA (by omega)) ?_; conv => whnf) | (refine optK_of (pipeSB (by omega)) ?_; conv => whnf) | (refine optK_of (intA (by omega)) ?_; conv => whnf) | (refine optK_of (intA' (by omega)) ?_; conv => whnf) | (refine optK_of (upA (by omega)) ?_; conv => whnf))
    refine ⟨k + 1, ?_, ?_, sim_of (rn := [((3, 0, 0), (3, 0, 0)), ((6, 0, 0), (6, 0, 0)), ((16, 0, 0), (16, 0, 0))]) rfl ?_ ?_⟩
    · (dsimp only; omega)
    · first | omega | (dsimp only; omega) | ((repeat' apply And.intro) <;> omega) | (dsimp only; (repeat' apply And.intro) <;> omega) | trivial
    · ((repeat' (first | exact trivial | apply And.intro)) <;> (first | rfl | (exact vintS eo) | exact succ8 (by omega) | exact succ64 (by omega) | exact CapOk.fn (by assumption) _ _ | exact vintS (by omega) | exact vintS (by rw [w64 (by omega) (by omega)]; omega) | exact vintS (by rw [w8 (by omega) (by omega)]; omega) | exact vslcS (by omega) | exact vslcS (by simp)))
    · ((repeat' (first | exact trivial | apply And.intro)) <;> (refine ⟨_, _, rfl, rfl, ?_⟩; first | rfl | (exact cset ec)))
  have h2' : o k - g.dp > 0 := by simpa using h2
  have eo : ovK g.dp o (k + 1) = IntKind.i64.wrap (ovK g.dp o k + IntKind.i64.wrap (o k - g.dp)) := by
    rw [w64 (n := o k - g.dp) (by omega) (by omega), w64 (by omega) (by omega)]
    simp only [ovK]; unfold over1; rw [if_pos h2']
  conv => whnf
  repeat (first | (refine And.intro (by first | exact Nat.le_of_ble_eq_true rfl | exact rfl | decide | omega | (simp [splice]; done) | (constructor <;> omega) | (simp [splice]; omega)) ?_; conv => whnf) | (refine optK_of (watA (by omega)) ?_; conv => whnf) | (refine optK_of (watA' (by omega)) ?_; conv => whnf) | (refine optK_of (watP (by omega) (by omega)) ?_; conv => whnf) | (refine optK_of (hDA (by omega)) ?_; conv => whnf) | (refine optK_of (hDA' (by omega)) ?_; conv => whnf) | (refine optK_of (gutA (by omega)) ?_; conv => whnf) | (refine optK_of (pipeA (by omega)) ?_; conv => whnf) | (refine optK_of (pipeB (by omega)) ?_; conv => whnf) | (refine optK_of (pipeSA (by omega)) ?_; conv => whnf) | (refine optK_of (pipeSB (by omega)) ?_; conv => whnf) | (refine optK_of (intA (by omega)) ?_; conv => whnf) | (refine optK_of (intA' (by omega)) ?_; conv => whnf) | (refine optK_of (upA (by omega)) ?_; conv => whnf))
  rw [ed]
  repeat (first | (refine And.intro (by first | exact Nat.le_of_ble_eq_true rfl | exact rfl | decide | omega | (simp [splice]; done) | (constructor <;> omega) | (simp [splice]; omega)) ?_; conv => whnf) | (refine optK_of (watA (by omega)) ?_; conv => whnf) | (refine optK_of (watA' (by omega)) ?_; conv => whnf) | (refine optK_of (watP (by omega) (by omega)) ?_; conv => whnf) | (refine optK_of (hDA (by omega)) ?_; conv => whnf) | (refine optK_of (hDA' (by omega)) ?_; conv => whnf) | (refine optK_of (gutA (by omega)) ?_; conv => whnf) | (refine optK_of (pipeA (by omega)) ?_; conv => whnf) | (refine optK_of (pipeB (by omega)) ?_; conv => whnf) | (refine optK_of (pipeSA (by omega)) ?_; conv => whnf) | (refine optK_of (pipeSB (by omega)) ?_; conv => whnf) | (refine optK_of (intA (by omega)) ?_; conv => whnf) | (refine optK_of (intA' (by omega)) ?_; conv => whnf) | (refine optK_of (upA (by omega)) ?_; conv => whnf))
  have setA : (watC (cutW g.dp o k)).set (0 + (k : Int).toNat * 1) (.int .i32 g.dp) = watC (cutW g.dp o (k + 1)) := by
    rw [wat_set (c := k) (by simp), cutW_put h2']
  refine ⟨k + 1, ?_, ?_, sim_of (rn := [((3, 0, 0), (3, 0, 0)), ((6, 0, 0), (6, 0, 0)), ((16, 0, 0), (16, 0, 0))]) rfl ?_ ?_⟩
  · (dsimp only; omega)
  · first | omega | (dsimp only; omega) | ((repeat' apply And.intro) <;> omega) | (dsimp only; (repeat' apply And.intro) <;> omega) | trivial
  · ((repeat' (first | exact trivial | apply And.intro)) <;> (first | rfl | (exact vintS eo) | exact succ8 (by omega) | exact succ64 (by omega) | exact CapOk.fn (by assumption) _ _ | exact vintS (by omega) | exact vintS (by rw [w64 (by omega) (by omega)]; omega) | exact vintS (by rw [w8 (by omega) (by omega)]; omega) | exact vslcS (by omega) | exact vslcS (by simp)))
  · ((repeat' (first | exact trivial | apply And.intro)) <;> (refine ⟨_, _, rfl, rfl, ?_⟩; first | rfl | (exact cset setA)))
theorem minutes_sat (g : Gut) (hg : g.In) (ho : g.Ok) (w : Nat → Int) (hw17 : W17 1000 w) (xs : List Int) (hx : RainOk g xs) (M : Nat) (hM : M ≤ 200) (b : Bool) :
    Sat Try.prog 85 [gutD false g, watD w, intsD b xs, .v (.int .i64 M)] (.tup [watD (wM g w xs M), .v (.int .i64 (tM g w xs M)), .v (.int .i64 (oM g w xs M))]) := by
  have e17 : watC (fun _ => 0) = List.replicate 17 (.int .i32 0) := watC_zero
  refine sat_of_wp hMix tOk Try.func85 rfl rfl Try.ntmps85 rfl rfl Try.results85 (by kernel_rfl) ?_
  conv => whnf
  repeat (first | (refine And.intro (by first | exact Nat.le_of_ble_eq_true rfl | exact rfl | decide | omega | (simp [splice]; done) | (constructor <;> omega) | (simp [splice]; omega)) ?_; conv => whnf) | (refine optK_of (watA (by omega)) ?_; conv => whnf) | (refine optK_of (watA' (by omega)) ?_; conv => whnf) | (refine optK_of (watP (by omega) (by omega)) ?_; conv => whnf) | (refine optK_of (hDA (by omega)) ?_; conv => whnf) | (refine optK_of (hDA' (by omega)) ?_; conv => whnf) | (refine optK_of (gutA (by omega)) ?_; conv => whnf) | (refine optK_of (pipeA (by omega)) ?_; conv => whnf) | (refine optK_of (pipeB (by omega)) ?_; conv => whnf) | (refine optK_of (pipeSA (by omega)) ?_; conv => whnf) | (refine optK_of (pipeSB (by omega)) ?_; conv => whnf) | (refine optK_of (intA (by omega)) ?_; conv => whnf) | (refine optK_of (intA' (by omega)) ?_; conv => whnf) | (refine optK_of (upA (by omega)) ?_; conv => whnf))
  refine loop_rule (α := Nat) (fun i => [(2, intsD b xs), (4, .ptr (4, 0, 0) 0), (5, .ptr (5, 0, 0) 0), (8, .ptr (8, 0, 0) 0), (11, .v (.int .i64 (tM g w xs i))), (12, .v (.int .i64 (oM g w xs i))), (16, .v (.int .i64 M)), (17, .v (.int .i64 i))]) (fun i => [((4, 0, 0), gutD false g), ((5, 0, 0), watD (wM g w xs i)), ((8, 0, 0), watD (fun _ => 0))]) (fun i => i ≤ M) (fun i => M - i) (0) ?_ (sim_of (rn := [((4, 0, 0), (4, 0, 0)), ((5, 0, 0), (5, 0, 0)), ((8, 0, 0), (8, 0, 0))]) rfl ?_ ?_) ?_
  · first | omega | (dsimp only; omega) | ((repeat' apply And.intro) <;> omega) | (dsimp only; (repeat' apply And.intro) <;> omega) | trivial
  · ((repeat' (first | exact trivial | apply And.intro)) <;> (first | rfl | exact succ8 (by omega) | exact succ64 (by omega) | exact CapOk.fn (by assumption) _ _ | exact vintS (by omega) | exact vintS (by rw [w64 (by omega) (by omega)]; omega) | exact vintS (by rw [w8 (by omega) (by omega)]; omega) | exact vslcS (by omega) | exact vslcS (by simp)))
  · ((repeat' (first | exact trivial | apply And.intro)) <;> (refine ⟨_, _, rfl, rfl, ?_⟩; first | rfl | (exact cset e17.symm)))
  intro i hi
  have hwi := wM_in ho hw17 hx i
  have hti := tM_in ho hw17 hx i
  have hoi := oM_in ho hw17 hx i
  conv => whnf
  repeat (first | (refine And.intro (by first | exact Nat.le_of_ble_eq_true rfl | exact rfl | decide | omega | (simp [splice]; done) | (constructor <;> omega) | (simp [splice]; omega)) ?_; conv => whnf) | (refine optK_of (watA (by omega)) ?_; conv => whnf) | (refine optK_of (watA' (by omega)) ?_; conv => whnf) | (refine optK_of (watP (by omega) (by omega)) ?_; conv => whnf) | (refine optK_of (hDA (by omega)) ?_; conv => whnf) | (refine optK_of (hDA' (by omega)) ?_; conv => whnf) | (refine optK_of (gutA (by omega)) ?_; conv => whnf) | (refine optK_of (pipeA (by omega)) ?_; conv => whnf) | (refine optK_of (pipeB (by omega)) ?_; conv => whnf) | (refine optK_of (pipeSA (by omega)) ?_; conv => whnf) | (refine optK_of (pipeSB (by omega)) ?_; conv => whnf) | (refine optK_of (intA (by omega)) ?_; conv => whnf) | (refine optK_of (intA' (by omega)) ?_; conv => whnf) | (refine optK_of (upA (by omega)) ?_; conv => whnf))
  cases h3 : decide ((i : Int) < (M : Int))
  · have hin : i = M := by simp at h3; omega
    subst hin
    conv => whnf
    repeat (first | (refine And.intro (by first | exact Nat.le_of_ble_eq_true rfl | exact rfl | decide | omega | (simp [splice]; done) | (constructor <;> omega) | (simp [splice]; omega)) ?_; conv => whnf) | (refine optK_of (watA (by omega)) ?_; conv => whnf) | (refine optK_of (watA' (by omega)) ?_; conv => whnf) | (refine optK_of (watP (by omega) (by omega)) ?_; conv => whnf) | (refine optK_of (hDA (by omega)) ?_; conv => whnf) | (refine optK_of (hDA' (by omega)) ?_; conv => whnf) | (refine optK_of (gutA (by omega)) ?_; conv => whnf) | (refine optK_of (pipeA (by omega)) ?_; conv => whnf) | (refine optK_of (pipeB (by omega)) ?_; conv => whnf) | (refine optK_of (pipeSA (by omega)) ?_; conv => whnf) | (refine optK_of (pipeSB (by omega)) ?_; conv => whnf) | (refine optK_of (intA (by omega)) ?_; conv => whnf) | (refine optK_of (intA' (by omega)) ?_; conv => whnf) | (refine optK_of (upA (by omega)) ?_; conv => whnf))
    first | refine ⟨rfl, _, rfl, ?_⟩ | refine ⟨_, rfl, ?_⟩
    skip
    exact congrArg (fun l => D.tup [.v (.agg ⟨l⟩), .v (.int .i64 (tM g w xs i)), .v (.int .i64 (oM g w xs i))]) (end17 (by simp) (by simp))
  have hin : i < M := by simpa using h3
  have hmt := minT_in ho hwi hx
  have hmo := minO_in ho hwi hx
  have e1 : tM g w xs (i + 1) = IntKind.i64.wrap (tM g w xs i + minT g (wM g w xs i) xs) := by rw [w64 (by omega) (by omega)]; rfl
  have e2 : oM g w xs (i + 1) = IntKind.i64.wrap (oM g w xs i + minO g (wM g w xs i) xs) := by rw [w64 (by omega) (by omega)]; rfl
  conv => whnf
  repeat (first | (refine And.intro (by first | exact Nat.le_of_ble_eq_true rfl | exact rfl | decide | omega | (simp [splice]; done) | (constructor <;> omega) | (simp [splice]; omega)) ?_; conv => whnf) | (refine optK_of (watA (by omega)) ?_; conv => whnf) | (refine optK_of (watA' (by omega)) ?_; conv => whnf) | (refine optK_of (watP (by omega) (by omega)) ?_; conv => whnf) | (refine optK_of (hDA (by omega)) ?_; conv => whnf) | (refine optK_of (hDA' (by omega)) ?_; conv => whnf) | (refine optK_of (gutA (by omega)) ?_; conv => whnf) | (refine optK_of (pipeA (by omega)) ?_; conv => whnf) | (refine optK_of (pipeB (by omega)) ?_; conv => whnf) | (refine optK_of (pipeSA (by omega)) ?_; conv => whnf) | (refine optK_of (pipeSB (by omega)) ?_; conv => whnf) | (refine optK_of (intA (by omega)) ?_; conv => whnf) | (refine optK_of (intA' (by omega)) ?_; conv => whnf) | (refine optK_of (upA (by omega)) ?_; conv => whnf))
  first | refine ⟨_, _, rfl, Sat.of_eq (minute_sat g hg ho (wM g w xs i) hwi xs hx false) (by repeat (first | rfl | exact vfull (by first | (simp [splice]; done) | (simp [splice]; omega)) | exact rfull (by first | (simp [splice]; done) | (simp [splice]; omega)) | exact vpipe (by simp; done) (by omega) | exact vsplice (by simp) (by simp) | refine ceq ?_ ?_ | refine Eq.trans (vsplice (by first | (simp; done) | (simp; omega)) (by first | (simp; done) | (simp; omega))) ?_)), ?_⟩ | refine .inl ⟨_, _, rfl, Sat.of_eq (minute_sat g hg ho (wM g w xs i) hwi xs hx false) (by repeat (first | rfl | exact vfull (by first | (simp [splice]; done) | (simp [splice]; omega)) | exact rfull (by first | (simp [splice]; done) | (simp [splice]; omega)) | exact vpipe (by simp; done) (by omega) | exact vsplice (by simp) (by simp) | refine ceq ?_ ?_ | refine Eq.trans (vsplice (by first | (simp; done) | (simp; omega)) (by first | (simp; done) | (simp; omega))) ?_)), ?_⟩
  conv => whnf
  repeat (first | (refine And.intro (by first | exact Nat.le_of_ble_eq_true rfl | exact rfl | decide | omega | (simp [splice]; done) | (constructor <;> omega) | (simp [splice]; omega)) ?_; conv => whnf) | (refine optK_of (watA (by omega)) ?_; conv => whnf) | (refine optK_of (watA' (by omega)) ?_; conv => whnf) | (refine optK_of (watP (by omega) (by omega)) ?_; conv => whnf) | (refine optK_of (hDA (by omega)) ?_; conv => whnf) | (refine optK_of (hDA' (by omega)) ?_; conv => whnf) | (refine optK_of (gutA (by omega)) ?_; conv => whnf) | (refine optK_of (pipeA (by omega)) ?_; conv => whnf) | (refine optK_of (pipeB (by omega)) ?_; conv => whnf) | (refine optK_of (pipeSA (by omega)) ?_; conv => whnf) | (refine optK_of (pipeSB (by omega)) ?_; conv => whnf) | (refine optK_of (intA (by omega)) ?_; conv => whnf) | (refine optK_of (intA' (by omega)) ?_; conv => whnf) | (refine optK_of (upA (by omega)) ?_; conv => whnf))
  have setA : splice (watC (wM g w xs i)) 0 (List.take 17 (List.drop 0 (splice (List.replicate 17 (.int .i32 0)) 0 (watC (minW g (wM g w xs i) xs))))) = watC (wM g w xs (i + 1)) := by
    rw [← one17 (by simp) (by simp), splice_all (by simp)]; rfl
  refine ⟨i + 1, ?_, ?_, sim_of (rn := [((4, 0, 0), (4, 0, 0)), ((5, 0, 0), (5, 0, 0)), ((8, 0, 0), (8, 0, 0))]) rfl ?_ ?_⟩
  · (dsimp only; omega)
  · first | omega | (dsimp only; omega) | ((repeat' apply And.intro) <;> omega) | (dsimp only; (repeat' apply And.intro) <;> omega) | trivial
  · ((repeat' (first | exact trivial | apply And.intro)) <;> (first | rfl | (first | exact vintS e1 | exact vintS e2) | exact succ8 (by omega) | exact succ64 (by omega) | exact CapOk.fn (by assumption) _ _ | exact vintS (by omega) | exact vintS (by rw [w64 (by omega) (by omega)]; omega) | exact vintS (by rw [w8 (by omega) (by omega)]; omega) | exact vslcS (by omega) | exact vslcS (by simp)))
  · ((repeat' (first | exact trivial | apply And.intro)) <;> (refine ⟨_, _, rfl, rfl, ?_⟩; first | rfl | (exact cset setA)))
end Go.Proofs.Ytndlknhakdadjaa
/- Plain words: the first least of a list; a gutter without leaves in a cell. -/
set_option linter.unusedVariables false
set_option linter.unusedSimpArgs false
namespace Go.V
/-- Where the first least of the first i + 1 numbers is. -/
def am (f : Nat → Int) : Nat → Nat
  | 0 => 0
  | i + 1 => if f (i + 1) < f (am f i) then i + 1 else am f i
theorem am_le (f : Nat → Int) : ∀ i, am f i ≤ i
  | 0 => Nat.le_refl _
  | i + 1 => by
    have := am_le f i
    simp only [am]; split <;> omega
theorem am_min (f : Nat → Int) : ∀ i j, j ≤ i → f (am f i) ≤ f j
  | 0, j, h => by
    have : j = 0 := by omega
    subst this; exact Int.le_refl _
  | i + 1, j, h => by
    simp only [am]
    split
    · rename_i hlt
      by_cases hj : j = i + 1
      · subst hj; omega
      · have := am_min f i j (by omega); omega
    · rename_i hge
      by_cases hj : j = i + 1
      · subst hj; omega
      · exact am_min f i j (by omega)
theorem am_first (f : Nat → Int) : ∀ i j, j < am f i → f (am f i) < f j
  | 0, j, h => by simp [am] at h
  | i + 1, j, h => by
    simp only [am] at h ⊢
    split at h
    · rename_i hlt
      rw [if_pos hlt]
      have := am_min f i j (by omega)
      omega
    · rename_i hge
      rw [if_neg hge]
      exact am_first f i j h
theorem am_congr {f g : Nat → Int} : ∀ {i : Nat}, (∀ j, j ≤ i → f j = g j) → am f i = am g i
  | 0, _ => rfl
  | i + 1, h => by
    have ih := am_congr (i := i) fun j hj => h j (by omega)
    have h1 := am_le f i
    simp only [am]
    rw [h (i + 1) (Nat.le_refl _), ih, h (am g i) (by rw [← ih]; omega)]
def nx (ls : List Nat) (i : Nat) : Nat := ls.getD i 0
theorem nx_left {ls : List Nat} {c i : Nat} (h : i < ls.length) : nx (ls ++ [c]) i = nx ls i := by
  unfold nx
  rw [List.getD_eq_getElem?_getD, List.getD_eq_getElem?_getD, List.getElem?_append_left h]
theorem nx_last {ls : List Nat} {c : Nat} : nx (ls ++ [c]) ls.length = c := by
  unfold nx
  rw [List.getD_eq_getElem?_getD]
  simp
theorem nx_mem {ls : List Nat} {i : Nat} (h : i < ls.length) : nx ls i ∈ ls := by
  unfold nx
  rw [List.getD_eq_getElem?_getD]
  simp [h]
/-- The first cell of a list that has the least, and this. -/
def bst (F : Nat → Int) (ls : List Nat) : Int × Int := if ls.length = 0 then (-1, 0) else (((nx ls (am (fun i => F (nx ls i)) (ls.length - 1)) : Nat) : Int), F (nx ls (am (fun i => F (nx ls i)) (ls.length - 1))))
theorem bst_neg {F : Nat → Int} {ls : List Nat} : (bst F ls).1 < 0 ↔ ls.length = 0 := by
  unfold bst
  split
  · rename_i h; simp [h]
  · rename_i h; simp [h]
theorem bst_snoc (F : Nat → Int) (ls : List Nat) (c : Nat) : bst F (ls ++ [c]) = if (bst F ls).1 < 0 ∨ F c < (bst F ls).2 then ((c : Int), F c) else bst F ls := by
  have hne : ¬ (ls ++ [c]).length = 0 := by simp
  unfold bst
  rw [if_neg hne]
  cases hl : ls.length with
  | zero =>
    have : ls = [] := List.eq_nil_of_length_eq_zero hl
    subst this
    rfl
  | succ n =>
    have e1 : (ls ++ [c]).length - 1 = n + 1 := by simp [hl]
    have hc : nx (ls ++ [c]) (n + 1) = c := by rw [← hl]; exact nx_last
    have ha : am (fun i => F (nx (ls ++ [c]) i)) n = am (fun i => F (nx ls i)) n := am_congr fun j hj => by
      show F _ = F _
      rw [nx_left (by omega)]
    have hle := am_le (fun i => F (nx ls i)) n
    have h2 : nx (ls ++ [c]) (am (fun i => F (nx ls i)) n) = nx ls (am (fun i => F (nx ls i)) n) := nx_left (by omega)
    have hA : am (fun i => F (nx (ls ++ [c]) i)) (n + 1) = if F c < F (nx ls (am (fun i => F (nx ls i)) n)) then n + 1 else am (fun i => F (nx ls i)) n := by
      show (if F (nx (ls ++ [c]) (n + 1)) < F (nx (ls ++ [c]) (am (fun i => F (nx (ls ++ [c]) i)) n)) then n + 1 else am (fun i => F (nx (ls ++ [c]) i)) n) = _
      simp only [ha, hc, h2]
    rw [e1, hA, if_neg (show ¬ n + 1 = 0 by omega), show n + 1 - 1 = n from rfl]
    dsimp only
    by_cases h : F c < F (nx ls (am (fun i => F (nx ls i)) n))
    · rw [if_pos h, if_pos (.inr h), hc]
    · rw [if_neg h, if_neg (by omega), h2]
def lvs (g : Gut) (k : Nat) : List Nat := (List.range k).filter (leafB g)
theorem lvs_yes {g : Gut} {k : Nat} (h : leafB g k = true) : lvs g (k + 1) = lvs g k ++ [k] := by
  unfold lvs; rw [List.range_succ, List.filter_append]; simp [h]
theorem lvs_no {g : Gut} {k : Nat} (h : leafB g k = false) : lvs g (k + 1) = lvs g k := by
  unfold lvs; rw [List.range_succ, List.filter_append]; simp [h]
theorem lvs_len (g : Gut) (k : Nat) : (lvs g k).length ≤ k := by
  unfold lvs
  refine Nat.le_trans (List.length_filter_le _ _) ?_
  simp
theorem lvs_lt {g : Gut} {k c : Nat} (h : c ∈ lvs g k) : c < k := by
  unfold lvs at h
  simp at h
  exact h.1
def lvC (g : Gut) (c : Nat) : Int := IntKind.u32.wrap (BitVec.ofInt IntKind.u32.bits g.lv &&& ~~~ BitVec.ofInt IntKind.u32.bits (IntKind.u32.wrap (1 * 2 ^ (min (c : Int).toNat IntKind.u32.bits)))).toNat
def cleanG (g : Gut) (c : Nat) : Gut := { g with lv := lvC g c }
theorem wrap32_range (n : Int) : 0 ≤ IntKind.u32.wrap n ∧ IntKind.u32.wrap n ≤ 4294967295 := by
  simp [IntKind.wrap, IntKind.bits, IntKind.signed]
  omega
theorem cleanG_in {g : Gut} (h : g.In) (c : Nat) : (cleanG g c).In := ⟨h.n, h.dp, h.h, wrap32_range _, h.ps, h.len⟩
theorem cleanG_ok {g : Gut} (h : g.Ok) (c : Nat) : (cleanG g c).Ok := ⟨h.n, h.dp, h.len, h.h, h.ps⟩
theorem cleanG_rain {g : Gut} {xs : List Int} (h : RainOk g xs) (c : Nat) : RainOk (cleanG g c) xs := ⟨h.len, h.t⟩
/-- What runs over without the leaves in a cell. -/
def clO (g : Gut) (xs : List Int) (M c : Nat) : Int := oM (cleanG g c) (fun _ => 0) xs M
def askG (g : Gut) (b : Bool) : Int := if okG g = true then (if b = true then 0 else 2) else 1
def bcA (g : Gut) (xs : List Int) (m : Int) : Int := askG g (rainB g xs && (decide (0 ≤ m) && decide (m ≤ 200)))
def bcK (g : Gut) (xs : List Int) (m : Int) : Int := if bcA g xs m = 0 then (if (lvs g g.n.toNat).length = 0 then 6 else 0) else bcA g xs m
def bcB (g : Gut) (xs : List Int) (m : Int) : Int × Int := if bcK g xs m = 0 then bst (clO g xs m.toNat) (lvs g g.n.toNat) else (0, 0)
def bcV (g : Gut) (xs : List Int) (m : Int) : D := .tup [.v (.int .i64 (bcB g xs m).1), .v (.int .i64 (bcB g xs m).2), .v (.int .i64 (bcK g xs m))]
theorem bcV_err {g : Gut} {xs : List Int} {m k : Int} (h : bcK g xs m = k) (hk : k ≠ 0) : bcV g xs m = .tup [.v (.int .i64 0), .v (.int .i64 0), .v (.int .i64 k)] := by
  unfold bcV bcB; rw [h, if_neg hk]
theorem bcA_ok {g : Gut} {xs : List Int} {m : Int} (h : bcA g xs m = 0) : g.Ok ∧ RainOk g xs ∧ 0 ≤ m ∧ m ≤ 200 := by
  unfold bcA askG at h
  split at h
  · rename_i h1
    split at h
    · rename_i h2
      simp only [Bool.and_eq_true, decide_eq_true_eq] at h2
      exact ⟨okG_ok h1, rainB_ok h2.1, h2.2.1, h2.2.2⟩
    · cases h
  · cases h
def toI (ls : List Nat) : List Int := ls.map Int.ofNat
@[simp] theorem toI_len (ls : List Nat) : (toI ls).length = ls.length := by simp [toI]
theorem toI_snoc (ls : List Nat) (c : Nat) : toI (ls ++ [c]) = toI ls ++ [(c : Int)] := by simp [toI]
theorem toI_ix {ls : List Nat} {i : Nat} (h : i < ls.length) : ix (toI ls) i = ((nx ls i : Nat) : Int) := by
  unfold ix toI nx
  rw [List.getD_eq_getElem?_getD, List.getD_eq_getElem?_getD]
  simp [h]
theorem map_ix {xs : List Int} {f : Int → Int} {i : Nat} (h : i < xs.length) : ix (xs.map f) i = f (ix xs i) := by
  unfold ix
  rw [List.getD_eq_getElem?_getD, List.getD_eq_getElem?_getD]
  simp [h]
end Go.V
