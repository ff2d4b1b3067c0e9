import Derived.Test.YtecjkbgepbefcaaP3
import Derived.Test.YtecjkbgepbefcaaVT
import Derived.Test.YtecjkbgepbefcaaP2
set_option linter.unusedVariables false
set_option linter.unusedSimpArgs false
/- Contracts: something of each place; what has to be replaced, both sides, and the law. -/
set_option linter.unusedVariables false
set_option linter.unusedSimpArgs false
namespace Go.V
def mapP (f : Pl → Int) (ps : List Pl) (i : Nat) : List Int := (ps.take i).map f
theorem mapP_zero (f : Pl → Int) (ps : List Pl) : mapP f ps 0 = [] := by simp [mapP]
theorem mapP_next (f : Pl → Int) {ps : List Pl} {i : Nat} (h : i < ps.length) : mapP f ps (i + 1) = mapP f ps i ++ [f (nthP ps i)] := by
  unfold mapP; rw [take_next h, List.map_append]; rfl
theorem mapP_all (f : Pl → Int) (ps : List Pl) : mapP f ps ps.length = ps.map f := by simp [mapP]
theorem mapP_len (f : Pl → Int) {ps : List Pl} {i : Nat} (h : i ≤ ps.length) : (mapP f ps i).length = i := by simp [mapP]; omega
def newB (life nx y b : Int) : Int := if nx - b > life then y else b
/-- The first k tiles seen to. -/
def bornS (life nx y : Int) (born : List Int) (k : Nat) : List Int := (born.take k).map (newB life nx y) ++ born.drop k
def cntS (life nx : Int) (born : List Int) (k : Nat) : Nat := (born.take k).countP fun b => decide (nx - b > life)
def nxAt (years : Int) (vs : List Int) (i : Nat) : Int := if i + 1 < vs.length then ix vs (i + 1) else years
def bornI (life years : Int) (vs b0 : List Int) : Nat → List Int
  | 0 => b0
  | i + 1 => bornS life (nxAt years vs i) (ix vs i) (bornI life years vs b0 i) b0.length
def outI (life years : Int) (vs b0 : List Int) : Nat → List Int
  | 0 => []
  | i + 1 => outI life years vs b0 i ++ [((cntS life (nxAt years vs i) (bornI life years vs b0 i) b0.length : Nat) : Int)]
theorem bornS_zero (life nx y : Int) (born : List Int) : bornS life nx y born 0 = born := by simp [bornS]
@[simp] theorem bornS_len (life nx y : Int) (born : List Int) (k : Nat) : (bornS life nx y born k).length = born.length := by
  simp [bornS]
  omega
@[simp] theorem bornI_len (life years : Int) (vs b0 : List Int) : ∀ i, (bornI life years vs b0 i).length = b0.length
  | 0 => rfl
  | i + 1 => by simp only [bornI, bornS_len]; exact bornI_len life years vs b0 i
@[simp] theorem outI_len (life years : Int) (vs b0 : List Int) : ∀ i, (outI life years vs b0 i).length = i
  | 0 => rfl
  | i + 1 => by simp only [outI, List.length_append, outI_len life years vs b0 i]; rfl
theorem bornS_at {life nx y : Int} {born : List Int} {k : Nat} (h : k < born.length) : ix (bornS life nx y born k) k = ix born k := by
  unfold ix bornS
  rw [List.getD_eq_getElem?_getD, List.getD_eq_getElem?_getD, List.getElem?_append_right (by simp; omega), List.getElem?_drop]
  simp only [List.length_map, List.length_take]
  rw [show k + (k - min k born.length) = k by omega]
theorem cntS_next {life nx : Int} {born : List Int} {k : Nat} (h : k < born.length) : cntS life nx born (k + 1) = cntS life nx born k + (if nx - ix born k > life then 1 else 0) := by
  unfold cntS
  rw [itake_next h, List.countP_append]
  congr 1
  by_cases hc : nx - ix born k > life <;> simp [hc]
theorem cntS_le {life nx : Int} {born : List Int} {k : Nat} : cntS life nx born k ≤ k := by
  unfold cntS
  refine Nat.le_trans List.countP_le_length ?_
  simp; omega
theorem bornS_no {life nx y : Int} {born : List Int} {k : Nat} (h : k < born.length) (hc : ¬ nx - ix born k > life) : bornS life nx y born (k + 1) = bornS life nx y born k := by
  unfold bornS
  rw [itake_next h, List.map_append, List.append_assoc, drop_ix (i := k) h]
  simp [newB, hc]
theorem bornS_yes {life nx y : Int} {born : List Int} {k : Nat} (h : k < born.length) (hc : nx - ix born k > life) : (bornS life nx y born k).set k y = bornS life nx y born (k + 1) := by
  unfold bornS
  have hl : ((born.take k).map (newB life nx y)).length = k := by simp; omega
  rw [List.set_append_right _ _ (by omega), hl, Nat.sub_self, drop_ix (i := k) h, List.set_cons_zero, itake_next h, List.map_append, List.append_assoc]
  simp [newB, hc]
theorem nx_t {years : Int} {vs : List Int} {i : Nat} (h : decide (((i + 1 : Nat) : Int) < (vs.length : Int)) = true) : nxAt years vs i = ix vs (i + 1) := by
  have : i + 1 < vs.length := by simp only [decide_eq_true_eq] at h; omega
  unfold nxAt; rw [if_pos this]
theorem nx_f {years : Int} {vs : List Int} {i : Nat} (h : decide (((i + 1 : Nat) : Int) < (vs.length : Int)) = false) : nxAt years vs i = years := by
  have : ¬ i + 1 < vs.length := by simp only [decide_eq_false_iff_not] at h; omega
  unfold nxAt; rw [if_neg this]
def In3 (x : Int) : Prop := -100 ≤ x ∧ x ≤ 300
theorem bornI_in {life years : Int} {vs b0 : List Int} (hv : ∀ i, i < vs.length → In3 (ix vs i)) (hb : ∀ k, k < b0.length → In3 (ix b0 k)) : ∀ i, i ≤ vs.length → ∀ k, k < b0.length → In3 (ix (bornI life years vs b0 i) k)
  | 0, _, k, hk => hb k hk
  | i + 1, hi, k, hk => by
    have ih := bornI_in (life := life) (years := years) hv hb i (by omega) k hk
    have hl := bornI_len life years vs b0 i
    simp only [bornI]
    unfold bornS
    rw [List.take_of_length_le (by omega), List.drop_of_length_le (by omega), List.append_nil]
    have : ix ((bornI life years vs b0 i).map (newB life (nxAt years vs i) (ix vs i))) k = newB life (nxAt years vs i) (ix vs i) (ix (bornI life years vs b0 i) k) := by
      have hk' : k < (bornI life years vs b0 i).length := by rw [hl]; exact hk
      unfold ix
      simp only [List.getD_eq_getElem?_getD, List.getElem?_map, List.getElem?_eq_getElem hk', Option.map_some, Option.getD_some]
    rw [this]
    unfold newB
    split
    · exact hv i (by omega)
    · exact ih
theorem nxAt_in {years : Int} {vs : List Int} (hv : ∀ i, i < vs.length → In3 (ix vs i)) (hy : 0 ≤ years ∧ years ≤ 200) (i : Nat) : In3 (nxAt years vs i) := by
  unfold nxAt
  split
  · exact hv _ (by assumption)
  · exact ⟨by omega, by omega⟩
theorem visL_mem {life years : Int} (hl : 1 ≤ life) : ∀ (f : Nat) (v x : Int), x ∈ visL life years f v → v ≤ x ∧ x < years
  | 0, v, x, h => by simp [visL] at h
  | f + 1, v, x, h => by
    simp only [visL] at h
    split at h
    · simp only [List.mem_cons] at h
      rcases h with rfl | h
      · exact ⟨Int.le_refl _, by assumption⟩
      · have := visL_mem hl f _ _ h; omega
    · simp at h
theorem ix_mem {xs : List Int} {i : Nat} (h : i < xs.length) : ix xs i ∈ xs := by
  unfold ix
  rw [List.getD_eq_getElem?_getD]
  simp [h]
def negA (a : Nat → Nat → Int) (q : Pl) : Int := -(a q.1 q.2)
def repX (r : Roof) (a : Nat → Nat → Int) (life years : Int) : List Int :=
  if visK r a life years = 0 then outI life years (visL life years 400 (life - ageP a (oldP r a))) ((gridP r.w.toNat r.h.toNat).map (negA a)) (visL life years 400 (life - ageP a (oldP r a))).length else []
def cpM (f : Pl → Int) (ps : List Pl) (i : Nat) : List Int := mapP f ps i ++ List.replicate (ps.length - i) 0
theorem cpM_len (f : Pl → Int) {ps : List Pl} {i : Nat} (h : i ≤ ps.length) : (cpM f ps i).length = ps.length := by
  unfold cpM; rw [List.length_append, mapP_len f h, List.length_replicate]; omega
theorem cpM_next (f : Pl → Int) {ps : List Pl} {i : Nat} (h : i < ps.length) : (cpM f ps i).set i (f (nthP ps i)) = cpM f ps (i + 1) := by
  unfold cpM
  have hl := mapP_len f (i := i) (Nat.le_of_lt h)
  rw [mapP_next f h, show ps.length - i = (ps.length - (i + 1)) + 1 by omega, List.replicate_succ, List.set_append_right _ _ (by omega), hl, Nat.sub_self, List.set_cons_zero, List.append_assoc, List.singleton_append]
theorem cpM_all (f : Pl → Int) (ps : List Pl) : cpM f ps ps.length = ps.map f := by simp [cpM, mapP_all]
theorem cpM_zero (f : Pl → Int) (ps : List Pl) : rep ps.length [Value.int .i64 0] = intsC (cpM f ps 0) := by
  simp [cpM, mapP, intsC_def, rep]
end Go.V
namespace Go.Proofs.Ytecjkbgepbefcaa
open Go.V
theorem eachPI_sat {g : Nat} {caps : List D} {f : Pl → Int} (ps : List Pl) (hl : ps.length ≤ 1048576) (m : Bool) (hc : CapOk caps) (hg : ∀ i, i < ps.length → Sat Try.prog g (plD (nthP ps i) :: caps) (.v (.int .i64 (f (nthP ps i))))) :
    Sat Try.prog 54 [placesD m ps, .fn (.func g) [] caps] (intsD true (ps.map f)) := by
  refine satN_of_wp hMix tOk Try.func54 rfl rfl Try.ntmps54 rfl rfl Try.results54 (by kernel_rfl) ?_
  conv => whnf
  repeat (first | (refine And.intro (by first  | exact rfl | decide | omega | (simp [splice]; done) | (constructor <;> omega) | (simp [splice]; omega)) ?_; conv => whnf) | (refine optK_of (intA (by omega)) ?_; conv => whnf) | (refine optK_of (intA' (by omega)) ?_; conv => whnf) | (refine optK_of (markIA (by omega)) ?_; conv => whnf) | (refine optK_of (gridN (by omega) (by omega)) ?_; conv => whnf) | (refine optK_of (placeA (by omega)) ?_; conv => whnf) | (refine optK_of (placeB (by omega)) ?_; conv => whnf) | (refine optK_of (placeA' (by omega)) ?_; conv => whnf) | (refine optK_of (placeB' (by omega)) ?_; conv => whnf))
  refine loop_rule (α := Nat) (fun i => [(1, .fn (.func g) [] caps), (5, .slc true 1 (19, 0, 0) 0 (mapP f ps i).length), (8, placesD m ps), (9, .v (.int .i64 ps.length)), (10, .v (.int .i64 i))]) (fun i => [((19, 0, 0), .v (.agg ⟨intsC (mapP f ps i)⟩))]) (fun i => i ≤ ps.length) (fun i => ps.length - i) (0) ?_ (sim_of (rn := [((19, 0, 0), nilId)]) rfl ?_ ?_) ?_
  · first | omega | (dsimp only; omega) | ((repeat' apply And.intro) <;> omega) | (dsimp only; (repeat' apply And.intro) <;> omega) | trivial
  · ((repeat' (first | exact trivial | apply And.intro)) <;> (first | rfl | exact succ8 (by omega) | exact succ64 (by omega) | exact CapOk.fn (by assumption) _ _ | exact vintS (by omega) | exact vintS (by rw [w64 (by omega) (by omega)]; omega) | exact vintS (by rw [w8 (by omega) (by omega)]; omega) | exact vslcS (by omega) | exact vslcS (by simp)))
  · ((repeat' (first | exact trivial | apply And.intro)) <;> ((first | refine ⟨_, _, rfl, rfl, ?_⟩ ); first | rfl | (rw [mapP_zero, intsC_nil]; rfl)))
  intro i hi
  have hml := mapP_len f hi
  conv => whnf
  repeat (first | (refine And.intro (by first  | exact rfl | decide | omega | (simp [splice]; done) | (constructor <;> omega) | (simp [splice]; omega)) ?_; conv => whnf) | (refine optK_of (intA (by omega)) ?_; conv => whnf) | (refine optK_of (intA' (by omega)) ?_; conv => whnf) | (refine optK_of (markIA (by omega)) ?_; conv => whnf) | (refine optK_of (gridN (by omega) (by omega)) ?_; conv => whnf) | (refine optK_of (placeA (by omega)) ?_; conv => whnf) | (refine optK_of (placeB (by omega)) ?_; conv => whnf) | (refine optK_of (placeA' (by omega)) ?_; conv => whnf) | (refine optK_of (placeB' (by omega)) ?_; conv => whnf))
  cases h : decide ((i : Int) < (ps.length : Int))
  · have hin : i = ps.length := by simp at h; omega
    subst hin
    rw [mapP_all]
    conv => whnf
    repeat (first | (refine And.intro (by first  | exact rfl | decide | omega | (simp [splice]; done) | (constructor <;> omega) | (simp [splice]; omega)) ?_; conv => whnf) | (refine optK_of (intA (by omega)) ?_; conv => whnf) | (refine optK_of (intA' (by omega)) ?_; conv => whnf) | (refine optK_of (markIA (by omega)) ?_; conv => whnf) | (refine optK_of (gridN (by omega) (by omega)) ?_; conv => whnf) | (refine optK_of (placeA (by omega)) ?_; conv => whnf) | (refine optK_of (placeB (by omega)) ?_; conv => whnf) | (refine optK_of (placeA' (by omega)) ?_; conv => whnf) | (refine optK_of (placeB' (by omega)) ?_; conv => whnf))
    first | refine ⟨rfl, _, rfl, [_], rfl, ?_, rfl⟩ | refine ⟨_, rfl, [_], rfl, ?_, rfl⟩
    ((repeat' (first | exact trivial | apply And.intro)) <;> first | exact .inl rfl | exact .inr ⟨rfl, rfl⟩)
  have hin : i < ps.length := by simpa using h
  conv => whnf
  repeat (first | (refine And.intro (by first  | exact rfl | decide | omega | (simp [splice]; done) | (constructor <;> omega) | (simp [splice]; omega)) ?_; conv => whnf) | (refine optK_of (intA (by omega)) ?_; conv => whnf) | (refine optK_of (intA' (by omega)) ?_; conv => whnf) | (refine optK_of (markIA (by omega)) ?_; conv => whnf) | (refine optK_of (gridN (by omega) (by omega)) ?_; conv => whnf) | (refine optK_of (placeA (by omega)) ?_; conv => whnf) | (refine optK_of (placeB (by omega)) ?_; conv => whnf) | (refine optK_of (placeA' (by omega)) ?_; conv => whnf) | (refine optK_of (placeB' (by omega)) ?_; conv => whnf))
  first | refine ⟨_, _, CapOk.one (by assumption) rfl, Sat.of_eq (hg i hin) (by repeat (first | rfl | exact vfull (by first | (simp [splice]; done) | (simp [splice]; omega)) | exact rfull (by first | (simp [splice]; done) | (simp [splice]; omega)) | exact vplace (by simp; done) (by omega) | exact vrow (by simp; done) (by omega) | exact vtiles (by simp) | exact vsplice (by simp) (by simp) | refine ceq ?_ ?_ | refine Eq.trans (vsplice (by first | (simp; done) | (simp; omega)) (by first | (simp; done) | (simp; omega))) ?_)), ?_⟩ | refine .inl ⟨_, _, CapOk.one (by assumption) rfl, Sat.of_eq (hg i hin) (by repeat (first | rfl | exact vfull (by first | (simp [splice]; done) | (simp [splice]; omega)) | exact rfull (by first | (simp [splice]; done) | (simp [splice]; omega)) | exact vplace (by simp; done) (by omega) | exact vrow (by simp; done) (by omega) | exact vtiles (by simp) | exact vsplice (by simp) (by simp) | refine ceq ?_ ?_ | refine Eq.trans (vsplice (by first | (simp; done) | (simp; omega)) (by first | (simp; done) | (simp; omega))) ?_)), ?_⟩
  conv => whnf
  repeat (first | (refine And.intro (by first  | exact rfl | decide | omega | (simp [splice]; done) | (constructor <;> omega) | (simp [splice]; omega)) ?_; conv => whnf) | (refine optK_of (intA (by omega)) ?_; conv => whnf) | (refine optK_of (intA' (by omega)) ?_; conv => whnf) | (refine optK_of (markIA (by omega)) ?_; conv => whnf) | (refine optK_of (gridN (by omega) (by omega)) ?_; conv => whnf) | (refine optK_of (placeA (by omega)) ?_; conv => whnf) | (refine optK_of (placeB (by omega)) ?_; conv => whnf) | (refine optK_of (placeA' (by omega)) ?_; conv => whnf) | (refine optK_of (placeB' (by omega)) ?_; conv => whnf))
  have e2 : intsC (mapP f ps i) ++ [.int .i64 (f (nthP ps i))] = intsC (mapP f ps (i + 1)) := by rw [mapP_next f hin, intsC_append, intsC_one]
  have hml' := mapP_len f (i := i + 1) (show i + 1 ≤ ps.length by omega)
  refine ⟨i + 1, ?_, ?_, sim_of (rn := [((19, 0, 0), (19, 1, 0))]) rfl ?_ ?_⟩
  · (dsimp only; omega)
  · first | omega | (dsimp only; omega) | ((repeat' apply And.intro) <;> omega) | (dsimp only; (repeat' apply And.intro) <;> omega) | trivial
  · ((repeat' (first | exact trivial | apply And.intro)) <;> (first | rfl | exact succ8 (by omega) | exact succ64 (by omega) | exact CapOk.fn (by assumption) _ _ | exact vintS (by omega) | exact vintS (by rw [w64 (by omega) (by omega)]; omega) | exact vintS (by rw [w8 (by omega) (by omega)]; omega) | exact vslcS (by omega) | exact vslcS (by simp)))
  · ((repeat' (first | exact trivial | apply And.intro)) <;> ((first | refine ⟨_, _, rfl, rfl, ?_⟩ ); first | rfl | (exact cset e2)))
theorem replaced2_sat (a : Nat → Nat → Int) (ha : AgesIn a) (q : Pl) (hq : q.1 < 8 ∧ q.2 < 8) : Sat Try.prog 57 [plD q, .ref false (gridD a) 0] (.v (.int .i64 (negA a q))) := by
  have := ha.t q.1 q.2
  refine sat_of_wp hMix tOk Try.func57 rfl rfl Try.ntmps57 rfl rfl Try.results57 (by kernel_rfl) ?_
  conv => whnf
  repeat (first | (refine And.intro (by first  | exact rfl | decide | omega | (simp [splice]; done) | (constructor <;> omega) | (simp [splice]; omega)) ?_; conv => whnf) | (refine optK_of (intA (by omega)) ?_; conv => whnf) | (refine optK_of (intA' (by omega)) ?_; conv => whnf) | (refine optK_of (markIA (by omega)) ?_; conv => whnf) | (refine optK_of (gridN (by omega) (by omega)) ?_; conv => whnf) | (refine optK_of (placeA (by omega)) ?_; conv => whnf) | (refine optK_of (placeB (by omega)) ?_; conv => whnf) | (refine optK_of (placeA' (by omega)) ?_; conv => whnf) | (refine optK_of (placeB' (by omega)) ?_; conv => whnf))
  first | refine ⟨_, _, rfl, Sat.of_eq (at_sat a ha q.1 q.2 hq.1 hq.2) (by repeat (first | rfl | exact vfull (by first | (simp [splice]; done) | (simp [splice]; omega)) | exact rfull (by first | (simp [splice]; done) | (simp [splice]; omega)) | exact vplace (by simp; done) (by omega) | exact vrow (by simp; done) (by omega) | exact vtiles (by simp) | exact vsplice (by simp) (by simp) | refine ceq ?_ ?_ | refine Eq.trans (vsplice (by first | (simp; done) | (simp; omega)) (by first | (simp; done) | (simp; omega))) ?_)), ?_⟩ | refine .inl ⟨_, _, rfl, Sat.of_eq (at_sat a ha q.1 q.2 hq.1 hq.2) (by repeat (first | rfl | exact vfull (by first | (simp [splice]; done) | (simp [splice]; omega)) | exact rfull (by first | (simp [splice]; done) | (simp [splice]; omega)) | exact vplace (by simp; done) (by omega) | exact vrow (by simp; done) (by omega) | exact vtiles (by simp) | exact vsplice (by simp) (by simp) | refine ceq ?_ ?_ | refine Eq.trans (vsplice (by first | (simp; done) | (simp; omega)) (by first | (simp; done) | (simp; omega))) ?_)), ?_⟩
  conv => whnf
  repeat (first | (refine And.intro (by first  | exact rfl | decide | omega | (simp [splice]; done) | (constructor <;> omega) | (simp [splice]; omega)) ?_; conv => whnf) | (refine optK_of (intA (by omega)) ?_; conv => whnf) | (refine optK_of (intA' (by omega)) ?_; conv => whnf) | (refine optK_of (markIA (by omega)) ?_; conv => whnf) | (refine optK_of (gridN (by omega) (by omega)) ?_; conv => whnf) | (refine optK_of (placeA (by omega)) ?_; conv => whnf) | (refine optK_of (placeB (by omega)) ?_; conv => whnf) | (refine optK_of (placeA' (by omega)) ?_; conv => whnf) | (refine optK_of (placeB' (by omega)) ?_; conv => whnf))
  first | refine ⟨rfl, _, rfl, ?_⟩ | refine ⟨_, rfl, ?_⟩
  skip
  rw [show IntKind.i64.wrap (0 - a q.1 q.2) = negA a q by unfold negA; rw [w64 (by omega) (by omega)]; omega]; rfl
theorem replaced1_sat (c k : Nat) : Sat Try.prog 56 [placeD c k] (.v (.bool true)) := by
  refine sat_of_wp hMix tOk Try.func56 rfl rfl Try.ntmps56 rfl rfl Try.results56 (by kernel_rfl) ?_
  conv => whnf
  repeat (first | (refine And.intro (by first  | exact rfl | decide | omega | (simp [splice]; done) | (constructor <;> omega) | (simp [splice]; omega)) ?_; conv => whnf) | (refine optK_of (intA (by omega)) ?_; conv => whnf) | (refine optK_of (intA' (by omega)) ?_; conv => whnf) | (refine optK_of (markIA (by omega)) ?_; conv => whnf) | (refine optK_of (gridN (by omega) (by omega)) ?_; conv => whnf) | (refine optK_of (placeA (by omega)) ?_; conv => whnf) | (refine optK_of (placeB (by omega)) ?_; conv => whnf) | (refine optK_of (placeA' (by omega)) ?_; conv => whnf) | (refine optK_of (placeB' (by omega)) ?_; conv => whnf))
  first | refine ⟨rfl, _, rfl, ?_⟩ | refine ⟨_, rfl, ?_⟩
  rfl
theorem replacedAt_sat (r : Roof) (hr : r.In) (a : Nat → Nat → Int) (ha : AgesIn a) (life years : Int) : Sat Try.prog 11 [roofD r, gridD a, .v (.int .i64 life), .v (.int .i64 years)] (.tup [intsD true (repX r a life years), .v (.int .i64 (visK r a life years))]) := by
  refine satN_of_wp hMix tOk Try.func11 rfl rfl Try.ntmps11 rfl rfl Try.results11 (by kernel_rfl) ?_
  conv => whnf
  repeat (first | (refine And.intro (by first  | exact rfl | decide | omega | (simp [splice]; done) | (constructor <;> omega) | (simp [splice]; omega)) ?_; conv => whnf) | (refine optK_of (intA (by omega)) ?_; conv => whnf) | (refine optK_of (intA' (by omega)) ?_; conv => whnf) | (refine optK_of (markIA (by omega)) ?_; conv => whnf) | (refine optK_of (gridN (by omega) (by omega)) ?_; conv => whnf) | (refine optK_of (placeA (by omega)) ?_; conv => whnf) | (refine optK_of (placeB (by omega)) ?_; conv => whnf) | (refine optK_of (placeA' (by omega)) ?_; conv => whnf) | (refine optK_of (placeB' (by omega)) ?_; conv => whnf))
  first | refine ⟨_, _, rfl, Sat.of_eq (visitsCode_sat r hr a ha life years) (by repeat (first | rfl | exact vfull (by first | (simp [splice]; done) | (simp [splice]; omega)) | exact rfull (by first | (simp [splice]; done) | (simp [splice]; omega)) | exact vplace (by simp; done) (by omega) | exact vrow (by simp; done) (by omega) | exact vtiles (by simp) | exact vsplice (by simp) (by simp) | refine ceq ?_ ?_ | refine Eq.trans (vsplice (by first | (simp; done) | (simp; omega)) (by first | (simp; done) | (simp; omega))) ?_)), ?_⟩ | refine .inl ⟨_, _, rfl, Sat.of_eq (visitsCode_sat r hr a ha life years) (by repeat (first | rfl | exact vfull (by first | (simp [splice]; done) | (simp [splice]; omega)) | exact rfull (by first | (simp [splice]; done) | (simp [splice]; omega)) | exact vplace (by simp; done) (by omega) | exact vrow (by simp; done) (by omega) | exact vtiles (by simp) | exact vsplice (by simp) (by simp) | refine ceq ?_ ?_ | refine Eq.trans (vsplice (by first | (simp; done) | (simp; omega)) (by first | (simp; done) | (simp; omega))) ?_)), ?_⟩
  conv => whnf
  repeat (first | (refine And.intro (by first  | exact rfl | decide | omega | (simp [splice]; done) | (constructor <;> omega) | (simp [splice]; omega)) ?_; conv => whnf) | (refine optK_of (intA (by omega)) ?_; conv => whnf) | (refine optK_of (intA' (by omega)) ?_; conv => whnf) | (refine optK_of (markIA (by omega)) ?_; conv => whnf) | (refine optK_of (gridN (by omega) (by omega)) ?_; conv => whnf) | (refine optK_of (placeA (by omega)) ?_; conv => whnf) | (refine optK_of (placeB (by omega)) ?_; conv => whnf) | (refine optK_of (placeA' (by omega)) ?_; conv => whnf) | (refine optK_of (placeB' (by omega)) ?_; conv => whnf))
  refine bsplitT (fun h1 => ?_) (fun h1 => ?_)
  all_goals (conv => whnf)
  all_goals (repeat (first | (refine And.intro (by first  | exact rfl | decide | omega | (simp [splice]; done) | (constructor <;> omega) | (simp [splice]; omega)) ?_; conv => whnf) | (refine optK_of (intA (by omega)) ?_; conv => whnf) | (refine optK_of (intA' (by omega)) ?_; conv => whnf) | (refine optK_of (markIA (by omega)) ?_; conv => whnf) | (refine optK_of (gridN (by omega) (by omega)) ?_; conv => whnf) | (refine optK_of (placeA (by omega)) ?_; conv => whnf) | (refine optK_of (placeB (by omega)) ?_; conv => whnf) | (refine optK_of (placeA' (by omega)) ?_; conv => whnf) | (refine optK_of (placeB' (by omega)) ?_; conv => whnf)))
  · have h1' : ¬ visK r a life years = 0 := by simpa using h1
    rw [show repX r a life years = [] by unfold repX; rw [if_neg h1']]
    unfold intsD; rw [intsC_nil]
    first | refine ⟨rfl, _, rfl, [_, _], rfl, ?_, rfl⟩ | refine ⟨_, rfl, [_, _], rfl, ?_, rfl⟩
    ((repeat' (first | exact trivial | apply And.intro)) <;> first | exact .inl rfl | exact .inr ⟨rfl, rfl⟩)
  have hk : visK r a life years = 0 := by simpa using h1
  have hz : brkK r a life years = 0 := by
    unfold visK at hk
    split at hk
    · assumption
    · rename_i h; exact (h hk).elim
  obtain ⟨hb, hold, hl, hy⟩ := brk_facts ha hz
  have hp := oldP_in hb a
  first | refine ⟨_, _, rfl, Sat.of_eq (oldest_sat r hr hb a ha) (by repeat (first | rfl | exact vfull (by first | (simp [splice]; done) | (simp [splice]; omega)) | exact rfull (by first | (simp [splice]; done) | (simp [splice]; omega)) | exact vplace (by simp; done) (by omega) | exact vrow (by simp; done) (by omega) | exact vtiles (by simp) | exact vsplice (by simp) (by simp) | refine ceq ?_ ?_ | refine Eq.trans (vsplice (by first | (simp; done) | (simp; omega)) (by first | (simp; done) | (simp; omega))) ?_)), ?_⟩ | refine .inl ⟨_, _, rfl, Sat.of_eq (oldest_sat r hr hb a ha) (by repeat (first | rfl | exact vfull (by first | (simp [splice]; done) | (simp [splice]; omega)) | exact rfull (by first | (simp [splice]; done) | (simp [splice]; omega)) | exact vplace (by simp; done) (by omega) | exact vrow (by simp; done) (by omega) | exact vtiles (by simp) | exact vsplice (by simp) (by simp) | refine ceq ?_ ?_ | refine Eq.trans (vsplice (by first | (simp; done) | (simp; omega)) (by first | (simp; done) | (simp; omega))) ?_)), ?_⟩
  conv => whnf
  repeat (first | (refine And.intro (by first  | exact rfl | decide | omega | (simp [splice]; done) | (constructor <;> omega) | (simp [splice]; omega)) ?_; conv => whnf) | (refine optK_of (intA (by omega)) ?_; conv => whnf) | (refine optK_of (intA' (by omega)) ?_; conv => whnf) | (refine optK_of (markIA (by omega)) ?_; conv => whnf) | (refine optK_of (gridN (by omega) (by omega)) ?_; conv => whnf) | (refine optK_of (placeA (by omega)) ?_; conv => whnf) | (refine optK_of (placeB (by omega)) ?_; conv => whnf) | (refine optK_of (placeA' (by omega)) ?_; conv => whnf) | (refine optK_of (placeB' (by omega)) ?_; conv => whnf))
  first | refine ⟨_, _, rfl, Sat.of_eq (at_sat a ha _ _ hp.1 hp.2) (by repeat (first | rfl | exact vfull (by first | (simp [splice]; done) | (simp [splice]; omega)) | exact rfull (by first | (simp [splice]; done) | (simp [splice]; omega)) | exact vplace (by simp; done) (by omega) | exact vrow (by simp; done) (by omega) | exact vtiles (by simp) | exact vsplice (by simp) (by simp) | refine ceq ?_ ?_ | refine Eq.trans (vsplice (by first | (simp; done) | (simp; omega)) (by first | (simp; done) | (simp; omega))) ?_)), ?_⟩ | refine .inl ⟨_, _, rfl, Sat.of_eq (at_sat a ha _ _ hp.1 hp.2) (by repeat (first | rfl | exact vfull (by first | (simp [splice]; done) | (simp [splice]; omega)) | exact rfull (by first | (simp [splice]; done) | (simp [splice]; omega)) | exact vplace (by simp; done) (by omega) | exact vrow (by simp; done) (by omega) | exact vtiles (by simp) | exact vsplice (by simp) (by simp) | refine ceq ?_ ?_ | refine Eq.trans (vsplice (by first | (simp; done) | (simp; omega)) (by first | (simp; done) | (simp; omega))) ?_)), ?_⟩
  conv => whnf
  repeat (first | (refine And.intro (by first  | exact rfl | decide | omega | (simp [splice]; done) | (constructor <;> omega) | (simp [splice]; omega)) ?_; conv => whnf) | (refine optK_of (intA (by omega)) ?_; conv => whnf) | (refine optK_of (intA' (by omega)) ?_; conv => whnf) | (refine optK_of (markIA (by omega)) ?_; conv => whnf) | (refine optK_of (gridN (by omega) (by omega)) ?_; conv => whnf) | (refine optK_of (placeA (by omega)) ?_; conv => whnf) | (refine optK_of (placeB (by omega)) ?_; conv => whnf) | (refine optK_of (placeA' (by omega)) ?_; conv => whnf) | (refine optK_of (placeB' (by omega)) ?_; conv => whnf))
  first | refine ⟨_, _, rfl, Sat.of_eq (visits_sat _ _ _ hold hl hy) (by repeat (first | rfl | exact vfull (by first | (simp [splice]; done) | (simp [splice]; omega)) | exact rfull (by first | (simp [splice]; done) | (simp [splice]; omega)) | exact vplace (by simp; done) (by omega) | exact vrow (by simp; done) (by omega) | exact vtiles (by simp) | exact vsplice (by simp) (by simp) | refine ceq ?_ ?_ | refine Eq.trans (vsplice (by first | (simp; done) | (simp; omega)) (by first | (simp; done) | (simp; omega))) ?_)), ?_⟩ | refine .inl ⟨_, _, rfl, Sat.of_eq (visits_sat _ _ _ hold hl hy) (by repeat (first | rfl | exact vfull (by first | (simp [splice]; done) | (simp [splice]; omega)) | exact rfull (by first | (simp [splice]; done) | (simp [splice]; omega)) | exact vplace (by simp; done) (by omega) | exact vrow (by simp; done) (by omega) | exact vtiles (by simp) | exact vsplice (by simp) (by simp) | refine ceq ?_ ?_ | refine Eq.trans (vsplice (by first | (simp; done) | (simp; omega)) (by first | (simp; done) | (simp; omega))) ?_)), ?_⟩
  conv => whnf
  repeat (first | (refine And.intro (by first  | exact rfl | decide | omega | (simp [splice]; done) | (constructor <;> omega) | (simp [splice]; omega)) ?_; conv => whnf) | (refine optK_of (intA (by omega)) ?_; conv => whnf) | (refine optK_of (intA' (by omega)) ?_; conv => whnf) | (refine optK_of (markIA (by omega)) ?_; conv => whnf) | (refine optK_of (gridN (by omega) (by omega)) ?_; conv => whnf) | (refine optK_of (placeA (by omega)) ?_; conv => whnf) | (refine optK_of (placeB (by omega)) ?_; conv => whnf) | (refine optK_of (placeA' (by omega)) ?_; conv => whnf) | (refine optK_of (placeB' (by omega)) ?_; conv => whnf))
  rw [hk, show repX r a life years = outI life years (visL life years 400 (life - ageP a (oldP r a))) ((gridP r.w.toNat r.h.toNat).map (negA a)) (visL life years 400 (life - ageP a (oldP r a))).length by unfold repX; rw [if_pos hk]]
  change 0 ≤ ageP a (oldP r a) ∧ ageP a (oldP r a) ≤ 100 at hold
  have hps := gridP_in (w := r.w.toNat) (h := r.h.toNat) (by omega) (by omega)
  have hsz := gridP_size hb
  have hgp : Sat Try.prog 55 [roofD r, .fn (.func 56) [] []] (placesD true (gridP r.w.toNat r.h.toNat)) := by
    rw [← allP_true]; exact places_sat r hr hb fun c k _ _ => replaced1_sat c k
  first | refine ⟨_, _, rfl, Sat.of_eq (hgp) (by repeat (first | rfl | exact vfull (by first | (simp [splice]; done) | (simp [splice]; omega)) | exact rfull (by first | (simp [splice]; done) | (simp [splice]; omega)) | exact vplace (by simp; done) (by omega) | exact vrow (by simp; done) (by omega) | exact vtiles (by simp) | exact vsplice (by simp) (by simp) | refine ceq ?_ ?_ | refine Eq.trans (vsplice (by first | (simp; done) | (simp; omega)) (by first | (simp; done) | (simp; omega))) ?_)), ?_⟩ | refine .inl ⟨_, _, rfl, Sat.of_eq (hgp) (by repeat (first | rfl | exact vfull (by first | (simp [splice]; done) | (simp [splice]; omega)) | exact rfull (by first | (simp [splice]; done) | (simp [splice]; omega)) | exact vplace (by simp; done) (by omega) | exact vrow (by simp; done) (by omega) | exact vtiles (by simp) | exact vsplice (by simp) (by simp) | refine ceq ?_ ?_ | refine Eq.trans (vsplice (by first | (simp; done) | (simp; omega)) (by first | (simp; done) | (simp; omega))) ?_)), ?_⟩
  conv => whnf
  repeat (first | (refine And.intro (by first  | exact rfl | decide | omega | (simp [splice]; done) | (constructor <;> omega) | (simp [splice]; omega)) ?_; conv => whnf) | (refine optK_of (intA (by omega)) ?_; conv => whnf) | (refine optK_of (intA' (by omega)) ?_; conv => whnf) | (refine optK_of (markIA (by omega)) ?_; conv => whnf) | (refine optK_of (gridN (by omega) (by omega)) ?_; conv => whnf) | (refine optK_of (placeA (by omega)) ?_; conv => whnf) | (refine optK_of (placeB (by omega)) ?_; conv => whnf) | (refine optK_of (placeA' (by omega)) ?_; conv => whnf) | (refine optK_of (placeB' (by omega)) ?_; conv => whnf))
  first | refine ⟨_, _, rfl, Sat.of_eq (eachPI_sat (caps := [.ref false (gridD a) 0]) (gridP r.w.toNat r.h.toNat) (by omega) false ⟨fun _ => rfl, fun _ => rfl⟩ (fun i hi => replaced2_sat a ha _ (hps i hi))) (by repeat (first | rfl | exact vfull (by first | (simp [splice]; done) | (simp [splice]; omega)) | exact rfull (by first | (simp [splice]; done) | (simp [splice]; omega)) | exact vplace (by simp; done) (by omega) | exact vrow (by simp; done) (by omega) | exact vtiles (by simp) | exact vsplice (by simp) (by simp) | refine ceq ?_ ?_ | refine Eq.trans (vsplice (by first | (simp; done) | (simp; omega)) (by first | (simp; done) | (simp; omega))) ?_)), ?_⟩ | refine .inl ⟨_, _, rfl, Sat.of_eq (eachPI_sat (caps := [.ref false (gridD a) 0]) (gridP r.w.toNat r.h.toNat) (by omega) false ⟨fun _ => rfl, fun _ => rfl⟩ (fun i hi => replaced2_sat a ha _ (hps i hi))) (by repeat (first | rfl | exact vfull (by first | (simp [splice]; done) | (simp [splice]; omega)) | exact rfull (by first | (simp [splice]; done) | (simp [splice]; omega)) | exact vplace (by simp; done) (by omega) | exact vrow (by simp; done) (by omega) | exact vtiles (by simp) | exact vsplice (by simp) (by simp) | refine ceq ?_ ?_ | refine Eq.trans (vsplice (by first | (simp; done) | (simp; omega)) (by first | (simp; done) | (simp; omega))) ?_)), ?_⟩
  conv => whnf
  repeat (first | (refine And.intro (by first  | exact rfl | decide | omega | (simp [splice]; done) | (constructor <;> omega) | (simp [splice]; omega)) ?_; conv => whnf) | (refine optK_of (intA (by omega)) ?_; conv => whnf) | (refine optK_of (intA' (by omega)) ?_; conv => whnf) | (refine optK_of (markIA (by omega)) ?_; conv => whnf) | (refine optK_of (gridN (by omega) (by omega)) ?_; conv => whnf) | (refine optK_of (placeA (by omega)) ?_; conv => whnf) | (refine optK_of (placeB (by omega)) ?_; conv => whnf) | (refine optK_of (placeA' (by omega)) ?_; conv => whnf) | (refine optK_of (placeB' (by omega)) ?_; conv => whnf))
  have hvl := visL_len life years 400 (life - ageP a (oldP r a))
  have hvm := fun x => visL_mem (years := years) hl.1 400 (life - ageP a (oldP r a)) x
  have hold2 : 0 ≤ ageP a (oldP r a) ∧ ageP a (oldP r a) ≤ 100 := hold
  generalize hvs : visL life years 400 (life - ageP a (oldP r a)) = vs at *
  have hbm : ∀ k, k < ((gridP r.w.toNat r.h.toNat).map (negA a)).length → In3 (ix ((gridP r.w.toNat r.h.toNat).map (negA a)) k) := by
    intro k hk
    obtain ⟨q, hq, e⟩ := List.mem_map.1 (ix_mem hk)
    obtain ⟨i, hi⟩ := List.getElem?_of_mem hq
    have hil : i < (gridP r.w.toNat r.h.toNat).length := (List.getElem?_eq_some_iff.1 hi).1
    rw [nthP_some hil] at hi
    simp only [Option.some.injEq] at hi
    have hq8 := hps i hil
    rw [hi] at hq8
    have h1 := okA_ages (askC_ok hz).1 hq8.1 hq8.2
    have h2 := ha.t q.1 q.2
    rw [← e]
    unfold In3 negA
    omega
  have hb0 : ((gridP r.w.toNat r.h.toNat).map (negA a)).length ≤ 72 := by rw [List.length_map]; exact hsz.2
  generalize (gridP r.w.toNat r.h.toNat).map (negA a) = b0 at *
  have hvi : ∀ i, i < vs.length → In3 (ix vs i) := fun i hi => by
    have := hvm _ (ix_mem hi)
    unfold In3
    omega
  clear hvm
  refine loop_rule (α := Nat) (fun i => [(2, .v (.int .i64 life)), (3, .v (.int .i64 years)), (11, .slc true 1 (34, 0, 0) 0 vs.length), (12, .slc true 1 (38, 0, 0) 0 b0.length), (13, .slc true 1 (80, 0, 0) 0 (outI life years vs b0 i).length), (39, .slc true 1 (34, 0, 0) 0 vs.length), (40, .v (.int .i64 vs.length)), (41, .v (.int .i64 i))]) (fun i => [((34, 0, 0), .v (.agg ⟨intsC vs⟩)), ((38, 0, 0), .v (.agg ⟨intsC (bornI life years vs b0 i)⟩)), ((80, 0, 0), .v (.agg ⟨intsC (outI life years vs b0 i)⟩))]) (fun i => i ≤ vs.length) (fun i => vs.length - i) (0) ?_ (sim_of (rn := [((34, 0, 0), (34, 0, 0)), ((38, 0, 0), (38, 0, 0)), ((80, 0, 0), nilId)]) rfl ?_ ?_) ?_
  · first | omega | (dsimp only; omega) | ((repeat' apply And.intro) <;> omega) | (dsimp only; (repeat' apply And.intro) <;> omega) | trivial
  · ((repeat' (first | exact trivial | apply And.intro)) <;> (first | rfl | exact succ8 (by omega) | exact succ64 (by omega) | exact CapOk.fn (by assumption) _ _ | exact vintS (by omega) | exact vintS (by rw [w64 (by omega) (by omega)]; omega) | exact vintS (by rw [w8 (by omega) (by omega)]; omega) | exact vslcS (by omega) | exact vslcS (by simp)))
  · ((repeat' (first | exact trivial | apply And.intro)) <;> ((first | refine ⟨_, _, rfl, rfl, ?_⟩ ); first | rfl | ((unfold outI; rw [intsC_nil]; rfl))))
  intro i hi
  have hol := outI_len life years vs b0 i
  conv => whnf
  repeat (first | (refine And.intro (by first  | exact rfl | decide | omega | (simp [splice]; done) | (constructor <;> omega) | (simp [splice]; omega)) ?_; conv => whnf) | (refine optK_of (intA (by omega)) ?_; conv => whnf) | (refine optK_of (intA' (by omega)) ?_; conv => whnf) | (refine optK_of (markIA (by omega)) ?_; conv => whnf) | (refine optK_of (gridN (by omega) (by omega)) ?_; conv => whnf) | (refine optK_of (placeA (by omega)) ?_; conv => whnf) | (refine optK_of (placeB (by omega)) ?_; conv => whnf) | (refine optK_of (placeA' (by omega)) ?_; conv => whnf) | (refine optK_of (placeB' (by omega)) ?_; conv => whnf))
  cases h : decide ((i : Int) < (vs.length : Int))
  · have hin : i = vs.length := by simp at h; omega
    subst hin
    conv => whnf
    repeat (first | (refine And.intro (by first  | exact rfl | decide | omega | (simp [splice]; done) | (constructor <;> omega) | (simp [splice]; omega)) ?_; conv => whnf) | (refine optK_of (intA (by omega)) ?_; conv => whnf) | (refine optK_of (intA' (by omega)) ?_; conv => whnf) | (refine optK_of (markIA (by omega)) ?_; conv => whnf) | (refine optK_of (gridN (by omega) (by omega)) ?_; conv => whnf) | (refine optK_of (placeA (by omega)) ?_; conv => whnf) | (refine optK_of (placeB (by omega)) ?_; conv => whnf) | (refine optK_of (placeA' (by omega)) ?_; conv => whnf) | (refine optK_of (placeB' (by omega)) ?_; conv => whnf))
    first | refine ⟨rfl, _, rfl, [_, _], rfl, ?_, rfl⟩ | refine ⟨_, rfl, [_, _], rfl, ?_, rfl⟩
    ((repeat' (first | exact trivial | apply And.intro)) <;> first | exact .inl rfl | exact .inr ⟨rfl, rfl⟩)
  have hin : i < vs.length := by simpa using h
  have ei : IntKind.i64.wrap ((i : Int) + 1) = ((i + 1 : Nat) : Int) := by rw [w64 (by omega) (by omega)]; omega
  conv => whnf
  repeat (first | (refine And.intro (by first  | exact rfl | decide | omega | (simp [splice]; done) | (constructor <;> omega) | (simp [splice]; omega)) ?_; conv => whnf) | (refine optK_of (intA (by omega)) ?_; conv => whnf) | (refine optK_of (intA' (by omega)) ?_; conv => whnf) | (refine optK_of (markIA (by omega)) ?_; conv => whnf) | (refine optK_of (gridN (by omega) (by omega)) ?_; conv => whnf) | (refine optK_of (placeA (by omega)) ?_; conv => whnf) | (refine optK_of (placeB (by omega)) ?_; conv => whnf) | (refine optK_of (placeA' (by omega)) ?_; conv => whnf) | (refine optK_of (placeB' (by omega)) ?_; conv => whnf))
  rw [ei]
  cases h9 : decide (((i + 1 : Nat) : Int) < (vs.length : Int))
  all_goals
    (try have h9' : i + 1 < vs.length := by simp only [decide_eq_true_eq] at h9; omega)
    conv => whnf
    repeat (first | (refine And.intro (by first  | exact rfl | decide | omega | (simp [splice]; done) | (constructor <;> omega) | (simp [splice]; omega)) ?_; conv => whnf) | (refine optK_of (intA (by omega)) ?_; conv => whnf) | (refine optK_of (intA' (by omega)) ?_; conv => whnf) | (refine optK_of (markIA (by omega)) ?_; conv => whnf) | (refine optK_of (gridN (by omega) (by omega)) ?_; conv => whnf) | (refine optK_of (placeA (by omega)) ?_; conv => whnf) | (refine optK_of (placeB (by omega)) ?_; conv => whnf) | (refine optK_of (placeA' (by omega)) ?_; conv => whnf) | (refine optK_of (placeB' (by omega)) ?_; conv => whnf))
    (try rw [ei])
    repeat (first | (refine And.intro (by first  | exact rfl | decide | omega | (simp [splice]; done) | (constructor <;> omega) | (simp [splice]; omega)) ?_; conv => whnf) | (refine optK_of (intA (by omega)) ?_; conv => whnf) | (refine optK_of (intA' (by omega)) ?_; conv => whnf) | (refine optK_of (markIA (by omega)) ?_; conv => whnf) | (refine optK_of (gridN (by omega) (by omega)) ?_; conv => whnf) | (refine optK_of (placeA (by omega)) ?_; conv => whnf) | (refine optK_of (placeB (by omega)) ?_; conv => whnf) | (refine optK_of (placeA' (by omega)) ?_; conv => whnf) | (refine optK_of (placeB' (by omega)) ?_; conv => whnf))
    have hbl := bornI_len life years vs b0 i
    have hbi := bornI_in (life := life) (years := years) hvi hbm i hi
    have hnx := nxAt_in (years := years) hvi hy i
    refine loop_rule (α := Nat) (fun k => [(2, .v (.int .i64 life)), (3, .v (.int .i64 years)), (11, .slc true 1 (34, 0, 0) 0 vs.length), (12, .slc true 1 (38, 0, 0) 0 b0.length), (13, .slc true 1 (80, 0, 0) 0 (outI life years vs b0 i).length), (15, .v (.int .i64 (ix vs i))), (16, .v (.int .i64 (nxAt years vs i))), (17, .v (.int .i64 (cntS life (nxAt years vs i) (bornI life years vs b0 i) k : Nat))), (39, .slc true 1 (34, 0, 0) 0 vs.length), (40, .v (.int .i64 vs.length)), (41, .v (.int .i64 i)), (58, .v (.int .i64 b0.length)), (59, .v (.int .i64 k))]) (fun k => [((34, 0, 0), .v (.agg ⟨intsC vs⟩)), ((38, 0, 0), .v (.agg ⟨intsC (bornS life (nxAt years vs i) (ix vs i) (bornI life years vs b0 i) k)⟩)), ((80, 0, 0), .v (.agg ⟨intsC (outI life years vs b0 i)⟩))]) (fun k => k ≤ b0.length) (fun k => b0.length - k) (0) ?_ (sim_of (rn := [((34, 0, 0), (34, 0, 0)), ((38, 0, 0), (38, 0, 0)), ((80, 0, 0), (80, 0, 0))]) rfl ?_ ?_) ?_
    · first | omega | (dsimp only; omega) | ((repeat' apply And.intro) <;> omega) | (dsimp only; (repeat' apply And.intro) <;> omega) | trivial
    · ((repeat' (first | exact trivial | apply And.intro)) <;> (first | rfl | (first | exact vintS (nx_t h9) | exact vintS (nx_f h9)) | exact succ8 (by omega) | exact succ64 (by omega) | exact CapOk.fn (by assumption) _ _ | exact vintS (by omega) | exact vintS (by rw [w64 (by omega) (by omega)]; omega) | exact vintS (by rw [w8 (by omega) (by omega)]; omega) | exact vslcS (by omega) | exact vslcS (by simp)))
    · ((repeat' (first | exact trivial | apply And.intro)) <;> ((first | refine ⟨_, _, rfl, rfl, ?_⟩ ); first | rfl | (rw [bornS_zero]; rfl)))
    intro k hk
    have hsl := bornS_len life (nxAt years vs i) (ix vs i) (bornI life years vs b0 i) k
    have hcl := cntS_le (life := life) (nx := nxAt years vs i) (born := bornI life years vs b0 i) (k := k)
    clear h9
    conv => whnf
    repeat (first | (refine And.intro (by first  | exact rfl | decide | omega | (simp [splice]; done) | (constructor <;> omega) | (simp [splice]; omega)) ?_; conv => whnf) | (refine optK_of (intA (by omega)) ?_; conv => whnf) | (refine optK_of (intA' (by omega)) ?_; conv => whnf) | (refine optK_of (markIA (by omega)) ?_; conv => whnf) | (refine optK_of (gridN (by omega) (by omega)) ?_; conv => whnf) | (refine optK_of (placeA (by omega)) ?_; conv => whnf) | (refine optK_of (placeB (by omega)) ?_; conv => whnf) | (refine optK_of (placeA' (by omega)) ?_; conv => whnf) | (refine optK_of (placeB' (by omega)) ?_; conv => whnf))
    cases h10 : decide ((k : Int) < (b0.length : Int))
    · have hkb : k = b0.length := by simp at h10; omega
      subst hkb
      conv => whnf
      repeat (first | (refine And.intro (by first  | exact rfl | decide | omega | (simp [splice]; done) | (constructor <;> omega) | (simp [splice]; omega)) ?_; conv => whnf) | (refine optK_of (intA (by omega)) ?_; conv => whnf) | (refine optK_of (intA' (by omega)) ?_; conv => whnf) | (refine optK_of (markIA (by omega)) ?_; conv => whnf) | (refine optK_of (gridN (by omega) (by omega)) ?_; conv => whnf) | (refine optK_of (placeA (by omega)) ?_; conv => whnf) | (refine optK_of (placeB (by omega)) ?_; conv => whnf) | (refine optK_of (placeA' (by omega)) ?_; conv => whnf) | (refine optK_of (placeB' (by omega)) ?_; conv => whnf))
      have e2 : intsC (outI life years vs b0 i) ++ [.int .i64 (cntS life (nxAt years vs i) (bornI life years vs b0 i) b0.length : Nat)] = intsC (outI life years vs b0 (i + 1)) := by rw [← intsC_one, ← intsC_append]; rfl
      refine ⟨i + 1, ?_, ?_, sim_of (rn := [((34, 0, 0), (34, 0, 0)), ((38, 0, 0), (38, 0, 0)), ((80, 0, 0), (80, 1, 0))]) rfl ?_ ?_⟩
      · (dsimp only; omega)
      · first | omega | (dsimp only; omega) | ((repeat' apply And.intro) <;> omega) | (dsimp only; (repeat' apply And.intro) <;> omega) | trivial
      · ((repeat' (first | exact trivial | apply And.intro)) <;> (first | rfl | exact succ8 (by omega) | exact succ64 (by omega) | exact CapOk.fn (by assumption) _ _ | exact vintS (by omega) | exact vintS (by rw [w64 (by omega) (by omega)]; omega) | exact vintS (by rw [w8 (by omega) (by omega)]; omega) | exact vslcS (by omega) | exact vslcS (by simp)))
      · ((repeat' (first | exact trivial | apply And.intro)) <;> ((first | refine ⟨_, _, rfl, rfl, ?_⟩ ); first | rfl | (exact cset e2)))
    have hkb : k < b0.length := by simpa using h10
    have hbk := hbi k hkb
    unfold In3 at hbk hnx
    conv => whnf
    repeat (first | (refine And.intro (by first  | exact rfl | decide | omega | (simp [splice]; done) | (constructor <;> omega) | (simp [splice]; omega)) ?_; conv => whnf) | (refine optK_of (intA (by omega)) ?_; conv => whnf) | (refine optK_of (intA' (by omega)) ?_; conv => whnf) | (refine optK_of (markIA (by omega)) ?_; conv => whnf) | (refine optK_of (gridN (by omega) (by omega)) ?_; conv => whnf) | (refine optK_of (placeA (by omega)) ?_; conv => whnf) | (refine optK_of (placeB (by omega)) ?_; conv => whnf) | (refine optK_of (placeA' (by omega)) ?_; conv => whnf) | (refine optK_of (placeB' (by omega)) ?_; conv => whnf))
    rw [bornS_at (by omega)]
    rw [show IntKind.i64.wrap (nxAt years vs i - ix (bornI life years vs b0 i) k) = nxAt years vs i - ix (bornI life years vs b0 i) k from w64 (by omega) (by omega)]
    cases h11 : decide (nxAt years vs i - ix (bornI life years vs b0 i) k > life)
    · have h11' : ¬ nxAt years vs i - ix (bornI life years vs b0 i) k > life := by simpa using h11
      have ec : cntS life (nxAt years vs i) (bornI life years vs b0 i) (k + 1) = cntS life (nxAt years vs i) (bornI life years vs b0 i) k := by rw [cntS_next (by omega), if_neg h11']; rfl
      rw [← bornS_no (by omega) h11', ← ec]
      conv => whnf
      repeat (first | (refine And.intro (by first  | exact rfl | decide | omega | (simp [splice]; done) | (constructor <;> omega) | (simp [splice]; omega)) ?_; conv => whnf) | (refine optK_of (intA (by omega)) ?_; conv => whnf) | (refine optK_of (intA' (by omega)) ?_; conv => whnf) | (refine optK_of (markIA (by omega)) ?_; conv => whnf) | (refine optK_of (gridN (by omega) (by omega)) ?_; conv => whnf) | (refine optK_of (placeA (by omega)) ?_; conv => whnf) | (refine optK_of (placeB (by omega)) ?_; conv => whnf) | (refine optK_of (placeA' (by omega)) ?_; conv => whnf) | (refine optK_of (placeB' (by omega)) ?_; conv => whnf))
      refine ⟨k + 1, ?_, ?_, sim_of (rn := [((34, 0, 0), (34, 0, 0)), ((38, 0, 0), (38, 0, 0)), ((80, 0, 0), (80, 0, 0))]) rfl ?_ ?_⟩
      · (dsimp only; omega)
      · first | omega | (dsimp only; omega) | ((repeat' apply And.intro) <;> omega) | (dsimp only; (repeat' apply And.intro) <;> omega) | trivial
      · ((repeat' (first | exact trivial | apply And.intro)) <;> (first | rfl | exact succ8 (by omega) | exact succ64 (by omega) | exact CapOk.fn (by assumption) _ _ | exact vintS (by omega) | exact vintS (by rw [w64 (by omega) (by omega)]; omega) | exact vintS (by rw [w8 (by omega) (by omega)]; omega) | exact vslcS (by omega) | exact vslcS (by simp)))
      · ((repeat' (first | exact trivial | apply And.intro)) <;> ((first | refine ⟨_, _, rfl, rfl, ?_⟩ ); rfl))
    have h11' : nxAt years vs i - ix (bornI life years vs b0 i) k > life := by simpa using h11
    have ec : cntS life (nxAt years vs i) (bornI life years vs b0 i) (k + 1) = cntS life (nxAt years vs i) (bornI life years vs b0 i) k + 1 := by rw [cntS_next (by omega), if_pos h11']
    conv => whnf
    repeat (first | (refine And.intro (by first  | exact rfl | decide | omega | (simp [splice]; done) | (constructor <;> omega) | (simp [splice]; omega)) ?_; conv => whnf) | (refine optK_of (intA (by omega)) ?_; conv => whnf) | (refine optK_of (intA' (by omega)) ?_; conv => whnf) | (refine optK_of (markIA (by omega)) ?_; conv => whnf) | (refine optK_of (gridN (by omega) (by omega)) ?_; conv => whnf) | (refine optK_of (placeA (by omega)) ?_; conv => whnf) | (refine optK_of (placeB (by omega)) ?_; conv => whnf) | (refine optK_of (placeA' (by omega)) ?_; conv => whnf) | (refine optK_of (placeB' (by omega)) ?_; conv => whnf))
    have setA : (intsC (bornS life (nxAt years vs i) (ix vs i) (bornI life years vs b0 i) k)).set (0 + (k : Int).toNat * 1) (.int .i64 (ix vs i)) = intsC (bornS life (nxAt years vs i) (ix vs i) (bornI life years vs b0 i) (k + 1)) := by
      rw [show 0 + (k : Int).toNat * 1 = k by omega, intsC_set, bornS_yes (by omega) h11']
    refine ⟨k + 1, ?_, ?_, sim_of (rn := [((34, 0, 0), (34, 0, 0)), ((38, 0, 0), (38, 0, 0)), ((80, 0, 0), (80, 0, 0))]) rfl ?_ ?_⟩
    · (dsimp only; omega)
    · first | omega | (dsimp only; omega) | ((repeat' apply And.intro) <;> omega) | (dsimp only; (repeat' apply And.intro) <;> omega) | trivial
    · ((repeat' (first | exact trivial | apply And.intro)) <;> (first | rfl | (exact vintS (by rw [ec, w64 (by omega) (by omega)]; omega)) | exact succ8 (by omega) | exact succ64 (by omega) | exact CapOk.fn (by assumption) _ _ | exact vintS (by omega) | exact vintS (by rw [w64 (by omega) (by omega)]; omega) | exact vintS (by rw [w8 (by omega) (by omega)]; omega) | exact vslcS (by omega) | exact vslcS (by simp)))
    · ((repeat' (first | exact trivial | apply And.intro)) <;> ((first | refine ⟨_, _, rfl, rfl, ?_⟩ ); first | rfl | (exact cset setA)))
theorem specReplacedAt_sat (r : Roof) (hr : r.In) (a : Nat → Nat → Int) (ha : AgesIn a) (life years : Int) : Sat Try.prog 12 [roofD r, gridD a, .v (.int .i64 life), .v (.int .i64 years)] (.tup [intsD true (repX r a life years), .v (.int .i64 (visK r a life years))]) := by
  have hcode : ∀ b, (lifeOk life && yearsOk years) = b → brkK r a life years = askC r a b := fun b h => by unfold brkK; rw [h]
  have err : ¬ brkK r a life years = 0 → repX r a life years = [] ∧ visK r a life years = brkK r a life years := fun h => by
    have h2 : visK r a life years = brkK r a life years := by unfold visK; rw [if_neg h]
    exact ⟨by unfold repX; rw [h2, if_neg h], h2⟩
  refine sat_of_wp hMix tOk Try.func12 rfl rfl Try.ntmps12 rfl rfl Try.results12 (by kernel_rfl) ?_
  conv => whnf
  repeat (first | (refine And.intro (by first  | exact rfl | decide | omega | (simp [splice]; done) | (constructor <;> omega) | (simp [splice]; omega)) ?_; conv => whnf) | (refine optK_of (intA (by omega)) ?_; conv => whnf) | (refine optK_of (intA' (by omega)) ?_; conv => whnf) | (refine optK_of (markIA (by omega)) ?_; conv => whnf) | (refine optK_of (gridN (by omega) (by omega)) ?_; conv => whnf) | (refine optK_of (placeA (by omega)) ?_; conv => whnf) | (refine optK_of (placeB (by omega)) ?_; conv => whnf) | (refine optK_of (placeA' (by omega)) ?_; conv => whnf) | (refine optK_of (placeB' (by omega)) ?_; conv => whnf))
  first | refine ⟨_, _, rfl, Sat.of_eq (l07Life_sat life) (by repeat (first | rfl | exact vfull (by first | (simp [splice]; done) | (simp [splice]; omega)) | exact rfull (by first | (simp [splice]; done) | (simp [splice]; omega)) | exact vplace (by simp; done) (by omega) | exact vrow (by simp; done) (by omega) | exact vtiles (by simp) | exact vsplice (by simp) (by simp) | refine ceq ?_ ?_ | refine Eq.trans (vsplice (by first | (simp; done) | (simp; omega)) (by first | (simp; done) | (simp; omega))) ?_)), ?_⟩ | refine .inl ⟨_, _, rfl, Sat.of_eq (l07Life_sat life) (by repeat (first | rfl | exact vfull (by first | (simp [splice]; done) | (simp [splice]; omega)) | exact rfull (by first | (simp [splice]; done) | (simp [splice]; omega)) | exact vplace (by simp; done) (by omega) | exact vrow (by simp; done) (by omega) | exact vtiles (by simp) | exact vsplice (by simp) (by simp) | refine ceq ?_ ?_ | refine Eq.trans (vsplice (by first | (simp; done) | (simp; omega)) (by first | (simp; done) | (simp; omega))) ?_)), ?_⟩
  conv => whnf
  repeat (first | (refine And.intro (by first  | exact rfl | decide | omega | (simp [splice]; done) | (constructor <;> omega) | (simp [splice]; omega)) ?_; conv => whnf) | (refine optK_of (intA (by omega)) ?_; conv => whnf) | (refine optK_of (intA' (by omega)) ?_; conv => whnf) | (refine optK_of (markIA (by omega)) ?_; conv => whnf) | (refine optK_of (gridN (by omega) (by omega)) ?_; conv => whnf) | (refine optK_of (placeA (by omega)) ?_; conv => whnf) | (refine optK_of (placeB (by omega)) ?_; conv => whnf) | (refine optK_of (placeA' (by omega)) ?_; conv => whnf) | (refine optK_of (placeB' (by omega)) ?_; conv => whnf))
  cases hL : lifeOk life
  · conv => whnf
    repeat (first | (refine And.intro (by first  | exact rfl | decide | omega | (simp [splice]; done) | (constructor <;> omega) | (simp [splice]; omega)) ?_; conv => whnf) | (refine optK_of (intA (by omega)) ?_; conv => whnf) | (refine optK_of (intA' (by omega)) ?_; conv => whnf) | (refine optK_of (markIA (by omega)) ?_; conv => whnf) | (refine optK_of (gridN (by omega) (by omega)) ?_; conv => whnf) | (refine optK_of (placeA (by omega)) ?_; conv => whnf) | (refine optK_of (placeB (by omega)) ?_; conv => whnf) | (refine optK_of (placeA' (by omega)) ?_; conv => whnf) | (refine optK_of (placeB' (by omega)) ?_; conv => whnf))
    first | refine ⟨_, _, rfl, Sat.of_eq (l07Asked_sat r hr a ha _) (by repeat (first | rfl | exact vfull (by first | (simp [splice]; done) | (simp [splice]; omega)) | exact rfull (by first | (simp [splice]; done) | (simp [splice]; omega)) | exact vplace (by simp; done) (by omega) | exact vrow (by simp; done) (by omega) | exact vtiles (by simp) | exact vsplice (by simp) (by simp) | refine ceq ?_ ?_ | refine Eq.trans (vsplice (by first | (simp; done) | (simp; omega)) (by first | (simp; done) | (simp; omega))) ?_)), ?_⟩ | refine .inl ⟨_, _, rfl, Sat.of_eq (l07Asked_sat r hr a ha _) (by repeat (first | rfl | exact vfull (by first | (simp [splice]; done) | (simp [splice]; omega)) | exact rfull (by first | (simp [splice]; done) | (simp [splice]; omega)) | exact vplace (by simp; done) (by omega) | exact vrow (by simp; done) (by omega) | exact vtiles (by simp) | exact vsplice (by simp) (by simp) | refine ceq ?_ ?_ | refine Eq.trans (vsplice (by first | (simp; done) | (simp; omega)) (by first | (simp; done) | (simp; omega))) ?_)), ?_⟩
    conv => whnf
    repeat (first | (refine And.intro (by first  | exact rfl | decide | omega | (simp [splice]; done) | (constructor <;> omega) | (simp [splice]; omega)) ?_; conv => whnf) | (refine optK_of (intA (by omega)) ?_; conv => whnf) | (refine optK_of (intA' (by omega)) ?_; conv => whnf) | (refine optK_of (markIA (by omega)) ?_; conv => whnf) | (refine optK_of (gridN (by omega) (by omega)) ?_; conv => whnf) | (refine optK_of (placeA (by omega)) ?_; conv => whnf) | (refine optK_of (placeB (by omega)) ?_; conv => whnf) | (refine optK_of (placeA' (by omega)) ?_; conv => whnf) | (refine optK_of (placeB' (by omega)) ?_; conv => whnf))
    rw [← hcode false (by simp [hL])]
    refine bsplitT (fun h1 => ?_) (fun h1 => ?_)
    all_goals (conv => whnf)
    all_goals (repeat (first | (refine And.intro (by first  | exact rfl | decide | omega | (simp [splice]; done) | (constructor <;> omega) | (simp [splice]; omega)) ?_; conv => whnf) | (refine optK_of (intA (by omega)) ?_; conv => whnf) | (refine optK_of (intA' (by omega)) ?_; conv => whnf) | (refine optK_of (markIA (by omega)) ?_; conv => whnf) | (refine optK_of (gridN (by omega) (by omega)) ?_; conv => whnf) | (refine optK_of (placeA (by omega)) ?_; conv => whnf) | (refine optK_of (placeB (by omega)) ?_; conv => whnf) | (refine optK_of (placeA' (by omega)) ?_; conv => whnf) | (refine optK_of (placeB' (by omega)) ?_; conv => whnf)))
    · first | refine ⟨rfl, _, rfl, ?_⟩ | refine ⟨_, rfl, ?_⟩
      skip
      have h1' : ¬ brkK r a life years = 0 := by simpa using h1
      rw [(err h1').1, (err h1').2]; unfold intsD; rw [intsC_nil]; rfl
    exfalso
    have : brkK r a life years = 0 := by simpa using h1
    rw [hcode false (by simp [hL])] at this
    have := (askC_ok this).2
    cases this
  conv => whnf
  repeat (first | (refine And.intro (by first  | exact rfl | decide | omega | (simp [splice]; done) | (constructor <;> omega) | (simp [splice]; omega)) ?_; conv => whnf) | (refine optK_of (intA (by omega)) ?_; conv => whnf) | (refine optK_of (intA' (by omega)) ?_; conv => whnf) | (refine optK_of (markIA (by omega)) ?_; conv => whnf) | (refine optK_of (gridN (by omega) (by omega)) ?_; conv => whnf) | (refine optK_of (placeA (by omega)) ?_; conv => whnf) | (refine optK_of (placeB (by omega)) ?_; conv => whnf) | (refine optK_of (placeA' (by omega)) ?_; conv => whnf) | (refine optK_of (placeB' (by omega)) ?_; conv => whnf))
  first | refine ⟨_, _, rfl, Sat.of_eq (l07Years_sat years) (by repeat (first | rfl | exact vfull (by first | (simp [splice]; done) | (simp [splice]; omega)) | exact rfull (by first | (simp [splice]; done) | (simp [splice]; omega)) | exact vplace (by simp; done) (by omega) | exact vrow (by simp; done) (by omega) | exact vtiles (by simp) | exact vsplice (by simp) (by simp) | refine ceq ?_ ?_ | refine Eq.trans (vsplice (by first | (simp; done) | (simp; omega)) (by first | (simp; done) | (simp; omega))) ?_)), ?_⟩ | refine .inl ⟨_, _, rfl, Sat.of_eq (l07Years_sat years) (by repeat (first | rfl | exact vfull (by first | (simp [splice]; done) | (simp [splice]; omega)) | exact rfull (by first | (simp [splice]; done) | (simp [splice]; omega)) | exact vplace (by simp; done) (by omega) | exact vrow (by simp; done) (by omega) | exact vtiles (by simp) | exact vsplice (by simp) (by simp) | refine ceq ?_ ?_ | refine Eq.trans (vsplice (by first | (simp; done) | (simp; omega)) (by first | (simp; done) | (simp; omega))) ?_)), ?_⟩
  conv => whnf
  repeat (first | (refine And.intro (by first  | exact rfl | decide | omega | (simp [splice]; done) | (constructor <;> omega) | (simp [splice]; omega)) ?_; conv => whnf) | (refine optK_of (intA (by omega)) ?_; conv => whnf) | (refine optK_of (intA' (by omega)) ?_; conv => whnf) | (refine optK_of (markIA (by omega)) ?_; conv => whnf) | (refine optK_of (gridN (by omega) (by omega)) ?_; conv => whnf) | (refine optK_of (placeA (by omega)) ?_; conv => whnf) | (refine optK_of (placeB (by omega)) ?_; conv => whnf) | (refine optK_of (placeA' (by omega)) ?_; conv => whnf) | (refine optK_of (placeB' (by omega)) ?_; conv => whnf))
  first | refine ⟨_, _, rfl, Sat.of_eq (l07Asked_sat r hr a ha _) (by repeat (first | rfl | exact vfull (by first | (simp [splice]; done) | (simp [splice]; omega)) | exact rfull (by first | (simp [splice]; done) | (simp [splice]; omega)) | exact vplace (by simp; done) (by omega) | exact vrow (by simp; done) (by omega) | exact vtiles (by simp) | exact vsplice (by simp) (by simp) | refine ceq ?_ ?_ | refine Eq.trans (vsplice (by first | (simp; done) | (simp; omega)) (by first | (simp; done) | (simp; omega))) ?_)), ?_⟩ | refine .inl ⟨_, _, rfl, Sat.of_eq (l07Asked_sat r hr a ha _) (by repeat (first | rfl | exact vfull (by first | (simp [splice]; done) | (simp [splice]; omega)) | exact rfull (by first | (simp [splice]; done) | (simp [splice]; omega)) | exact vplace (by simp; done) (by omega) | exact vrow (by simp; done) (by omega) | exact vtiles (by simp) | exact vsplice (by simp) (by simp) | refine ceq ?_ ?_ | refine Eq.trans (vsplice (by first | (simp; done) | (simp; omega)) (by first | (simp; done) | (simp; omega))) ?_)), ?_⟩
  conv => whnf
  repeat (first | (refine And.intro (by first  | exact rfl | decide | omega | (simp [splice]; done) | (constructor <;> omega) | (simp [splice]; omega)) ?_; conv => whnf) | (refine optK_of (intA (by omega)) ?_; conv => whnf) | (refine optK_of (intA' (by omega)) ?_; conv => whnf) | (refine optK_of (markIA (by omega)) ?_; conv => whnf) | (refine optK_of (gridN (by omega) (by omega)) ?_; conv => whnf) | (refine optK_of (placeA (by omega)) ?_; conv => whnf) | (refine optK_of (placeB (by omega)) ?_; conv => whnf) | (refine optK_of (placeA' (by omega)) ?_; conv => whnf) | (refine optK_of (placeB' (by omega)) ?_; conv => whnf))
  rw [← hcode _ (by simp [hL])]
  refine bsplitT (fun h1 => ?_) (fun h1 => ?_)
  all_goals (conv => whnf)
  all_goals (repeat (first | (refine And.intro (by first  | exact rfl | decide | omega | (simp [splice]; done) | (constructor <;> omega) | (simp [splice]; omega)) ?_; conv => whnf) | (refine optK_of (intA (by omega)) ?_; conv => whnf) | (refine optK_of (intA' (by omega)) ?_; conv => whnf) | (refine optK_of (markIA (by omega)) ?_; conv => whnf) | (refine optK_of (gridN (by omega) (by omega)) ?_; conv => whnf) | (refine optK_of (placeA (by omega)) ?_; conv => whnf) | (refine optK_of (placeB (by omega)) ?_; conv => whnf) | (refine optK_of (placeA' (by omega)) ?_; conv => whnf) | (refine optK_of (placeB' (by omega)) ?_; conv => whnf)))
  · first | refine ⟨rfl, _, rfl, ?_⟩ | refine ⟨_, rfl, ?_⟩
    skip
    have h1' : ¬ brkK r a life years = 0 := by simpa using h1
    rw [(err h1').1, (err h1').2]; unfold intsD; rw [intsC_nil]; rfl
  have hz : brkK r a life years = 0 := by simpa using h1
  obtain ⟨hb, hold, hl, hy⟩ := brk_facts ha hz
  first | refine ⟨_, _, rfl, Sat.of_eq (l07Visits_sat r hr hb a ha hold life years hl hy) (by repeat (first | rfl | exact vfull (by first | (simp [splice]; done) | (simp [splice]; omega)) | exact rfull (by first | (simp [splice]; done) | (simp [splice]; omega)) | exact vplace (by simp; done) (by omega) | exact vrow (by simp; done) (by omega) | exact vtiles (by simp) | exact vsplice (by simp) (by simp) | refine ceq ?_ ?_ | refine Eq.trans (vsplice (by first | (simp; done) | (simp; omega)) (by first | (simp; done) | (simp; omega))) ?_)), ?_⟩ | refine .inl ⟨_, _, rfl, Sat.of_eq (l07Visits_sat r hr hb a ha hold life years hl hy) (by repeat (first | rfl | exact vfull (by first | (simp [splice]; done) | (simp [splice]; omega)) | exact rfull (by first | (simp [splice]; done) | (simp [splice]; omega)) | exact vplace (by simp; done) (by omega) | exact vrow (by simp; done) (by omega) | exact vtiles (by simp) | exact vsplice (by simp) (by simp) | refine ceq ?_ ?_ | refine Eq.trans (vsplice (by first | (simp; done) | (simp; omega)) (by first | (simp; done) | (simp; omega))) ?_)), ?_⟩
  conv => whnf
  repeat (first | (refine And.intro (by first  | exact rfl | decide | omega | (simp [splice]; done) | (constructor <;> omega) | (simp [splice]; omega)) ?_; conv => whnf) | (refine optK_of (intA (by omega)) ?_; conv => whnf) | (refine optK_of (intA' (by omega)) ?_; conv => whnf) | (refine optK_of (markIA (by omega)) ?_; conv => whnf) | (refine optK_of (gridN (by omega) (by omega)) ?_; conv => whnf) | (refine optK_of (placeA (by omega)) ?_; conv => whnf) | (refine optK_of (placeB (by omega)) ?_; conv => whnf) | (refine optK_of (placeA' (by omega)) ?_; conv => whnf) | (refine optK_of (placeB' (by omega)) ?_; conv => whnf))
  cases h2 : decide (ageP a (oldP r a) > life)
  case true =>
    have h2' : ageP a (oldP r a) > life := by simpa using h2
    have hk : visK r a life years = 6 := by unfold visK; rw [if_pos hz, if_pos h2']
    rw [if_pos h2', hk, show repX r a life years = [] by unfold repX; rw [hk]; rfl]
    conv => whnf
    repeat (first | (refine And.intro (by first  | exact rfl | decide | omega | (simp [splice]; done) | (constructor <;> omega) | (simp [splice]; omega)) ?_; conv => whnf) | (refine optK_of (intA (by omega)) ?_; conv => whnf) | (refine optK_of (intA' (by omega)) ?_; conv => whnf) | (refine optK_of (markIA (by omega)) ?_; conv => whnf) | (refine optK_of (gridN (by omega) (by omega)) ?_; conv => whnf) | (refine optK_of (placeA (by omega)) ?_; conv => whnf) | (refine optK_of (placeB (by omega)) ?_; conv => whnf) | (refine optK_of (placeA' (by omega)) ?_; conv => whnf) | (refine optK_of (placeB' (by omega)) ?_; conv => whnf))
    first | refine ⟨rfl, _, rfl, ?_⟩ | refine ⟨_, rfl, ?_⟩
    skip
    unfold intsD; rw [intsC_nil]; rfl
  have h2' : ¬ ageP a (oldP r a) > life := by simpa using h2
  have hk : visK r a life years = 0 := by unfold visK; rw [if_pos hz, if_neg h2']
  rw [if_neg h2', hk, show repX r a life years = outI life years (visL life years 400 (life - ageP a (oldP r a))) ((gridP r.w.toNat r.h.toNat).map (negA a)) (visL life years 400 (life - ageP a (oldP r a))).length by unfold repX; rw [if_pos hk]]
  have hall : Sat Try.prog 58 [.ref false (roofD r) 0] (placesD true (gridP r.w.toNat r.h.toNat)) := by rw [← allP_true]; exact l01All_sat r hr hb
  have hps := gridP_in (w := r.w.toNat) (h := r.h.toNat) (by omega) (by omega)
  have hsz := gridP_size hb
  have hvl := visL_len life years 400 (life - ageP a (oldP r a))
  have hvm := fun x => visL_mem (years := years) hl.1 400 (life - ageP a (oldP r a)) x
  generalize hvs : visL life years 400 (life - ageP a (oldP r a)) = vs at *
  have hvi : ∀ i, i < vs.length → In3 (ix vs i) := fun i hi => by
    have := hvm _ (ix_mem hi)
    unfold In3
    omega
  clear hvm
  have hag : ∀ i, i < (gridP r.w.toNat r.h.toNat).length → 0 ≤ a (nthP (gridP r.w.toNat r.h.toNat) i).1 (nthP (gridP r.w.toNat r.h.toNat) i).2 ∧ a (nthP (gridP r.w.toNat r.h.toNat) i).1 (nthP (gridP r.w.toNat r.h.toNat) i).2 ≤ 100 := fun i hi =>
    ⟨(ha.t _ _).1, okA_ages (askC_ok hz).1 (hps i hi).1 (hps i hi).2⟩
  generalize gridP r.w.toNat r.h.toNat = ps at *
  conv => whnf
  repeat (first | (refine And.intro (by first  | exact rfl | decide | omega | (simp [splice]; done) | (constructor <;> omega) | (simp [splice]; omega)) ?_; conv => whnf) | (refine optK_of (intA (by omega)) ?_; conv => whnf) | (refine optK_of (intA' (by omega)) ?_; conv => whnf) | (refine optK_of (markIA (by omega)) ?_; conv => whnf) | (refine optK_of (gridN (by omega) (by omega)) ?_; conv => whnf) | (refine optK_of (placeA (by omega)) ?_; conv => whnf) | (refine optK_of (placeB (by omega)) ?_; conv => whnf) | (refine optK_of (placeA' (by omega)) ?_; conv => whnf) | (refine optK_of (placeB' (by omega)) ?_; conv => whnf))
  first | refine ⟨_, _, rfl, Sat.of_eq (hall) (by repeat (first | rfl | exact vfull (by first | (simp [splice]; done) | (simp [splice]; omega)) | exact rfull (by first | (simp [splice]; done) | (simp [splice]; omega)) | exact vplace (by simp; done) (by omega) | exact vrow (by simp; done) (by omega) | exact vtiles (by simp) | exact vsplice (by simp) (by simp) | refine ceq ?_ ?_ | refine Eq.trans (vsplice (by first | (simp; done) | (simp; omega)) (by first | (simp; done) | (simp; omega))) ?_)), ?_⟩ | refine .inl ⟨_, _, rfl, Sat.of_eq (hall) (by repeat (first | rfl | exact vfull (by first | (simp [splice]; done) | (simp [splice]; omega)) | exact rfull (by first | (simp [splice]; done) | (simp [splice]; omega)) | exact vplace (by simp; done) (by omega) | exact vrow (by simp; done) (by omega) | exact vtiles (by simp) | exact vsplice (by simp) (by simp) | refine ceq ?_ ?_ | refine Eq.trans (vsplice (by first | (simp; done) | (simp; omega)) (by first | (simp; done) | (simp; omega))) ?_)), ?_⟩
  conv => whnf
  repeat (first | (refine And.intro (by first  | exact rfl | decide | omega | (simp [splice]; done) | (constructor <;> omega) | (simp [splice]; omega)) ?_; conv => whnf) | (refine optK_of (intA (by omega)) ?_; conv => whnf) | (refine optK_of (intA' (by omega)) ?_; conv => whnf) | (refine optK_of (markIA (by omega)) ?_; conv => whnf) | (refine optK_of (gridN (by omega) (by omega)) ?_; conv => whnf) | (refine optK_of (placeA (by omega)) ?_; conv => whnf) | (refine optK_of (placeB (by omega)) ?_; conv => whnf) | (refine optK_of (placeA' (by omega)) ?_; conv => whnf) | (refine optK_of (placeB' (by omega)) ?_; conv => whnf))
  refine loop_rule (α := Nat) (fun i => [(2, .v (.int .i64 life)), (3, .v (.int .i64 years)), (5, .ptr (5, 0, 0) 0), (11, .slc true 1 (35, 0, 0) 0 vs.length), (13, .slc true 2 (41, 0, 0) 0 ps.length), (14, .slc true 1 (44, 0, 0) 0 ps.length), (15, .v (.int .i64 i))]) (fun i => [((5, 0, 0), gridD a), ((35, 0, 0), .v (.agg ⟨intsC vs⟩)), ((41, 0, 0), .v (.agg ⟨placesC ps⟩)), ((44, 0, 0), .v (.agg ⟨intsC (cpM (negA a) ps i)⟩))]) (fun i => i ≤ ps.length) (fun i => ps.length - i) (0) ?_ (sim_of (rn := [((5, 0, 0), (5, 0, 0)), ((35, 0, 0), (35, 0, 0)), ((41, 0, 0), (41, 0, 0)), ((44, 0, 0), (44, 0, 0))]) rfl ?_ ?_) ?_
  · first | omega | (dsimp only; omega) | ((repeat' apply And.intro) <;> omega) | (dsimp only; (repeat' apply And.intro) <;> omega) | trivial
  · ((repeat' (first | exact trivial | apply And.intro)) <;> (first | rfl | exact succ8 (by omega) | exact succ64 (by omega) | exact CapOk.fn (by assumption) _ _ | exact vintS (by omega) | exact vintS (by rw [w64 (by omega) (by omega)]; omega) | exact vintS (by rw [w8 (by omega) (by omega)]; omega) | exact vslcS (by omega) | exact vslcS (by simp)))
  · ((repeat' (first | exact trivial | apply And.intro)) <;> ((first | refine ⟨_, _, rfl, rfl, ?_⟩ ); first | rfl | (exact cset (cpM_zero (negA a) ps))))
  intro i hi
  have hcl := cpM_len (negA a) hi
  conv => whnf
  repeat (first | (refine And.intro (by first  | exact rfl | decide | omega | (simp [splice]; done) | (constructor <;> omega) | (simp [splice]; omega)) ?_; conv => whnf) | (refine optK_of (intA (by omega)) ?_; conv => whnf) | (refine optK_of (intA' (by omega)) ?_; conv => whnf) | (refine optK_of (markIA (by omega)) ?_; conv => whnf) | (refine optK_of (gridN (by omega) (by omega)) ?_; conv => whnf) | (refine optK_of (placeA (by omega)) ?_; conv => whnf) | (refine optK_of (placeB (by omega)) ?_; conv => whnf) | (refine optK_of (placeA' (by omega)) ?_; conv => whnf) | (refine optK_of (placeB' (by omega)) ?_; conv => whnf))
  cases h : decide ((i : Int) < (ps.length : Int))
  case true =>
    have hin : i < ps.length := by simpa using h
    have hqi := hps i hin
    have hai := hag i hin
    conv => whnf
    repeat (first | (refine And.intro (by first  | exact rfl | decide | omega | (simp [splice]; done) | (constructor <;> omega) | (simp [splice]; omega)) ?_; conv => whnf) | (refine optK_of (intA (by omega)) ?_; conv => whnf) | (refine optK_of (intA' (by omega)) ?_; conv => whnf) | (refine optK_of (markIA (by omega)) ?_; conv => whnf) | (refine optK_of (gridN (by omega) (by omega)) ?_; conv => whnf) | (refine optK_of (placeA (by omega)) ?_; conv => whnf) | (refine optK_of (placeB (by omega)) ?_; conv => whnf) | (refine optK_of (placeA' (by omega)) ?_; conv => whnf) | (refine optK_of (placeB' (by omega)) ?_; conv => whnf))
    first | refine ⟨_, _, rfl, Sat.of_eq (l07Age_sat a ha (nthP ps i).1 (nthP ps i).2 hqi.1 hqi.2) (by repeat (first | rfl | exact vfull (by first | (simp [splice]; done) | (simp [splice]; omega)) | exact rfull (by first | (simp [splice]; done) | (simp [splice]; omega)) | exact vplace (by simp; done) (by omega) | exact vrow (by simp; done) (by omega) | exact vtiles (by simp) | exact vsplice (by simp) (by simp) | refine ceq ?_ ?_ | refine Eq.trans (vsplice (by first | (simp; done) | (simp; omega)) (by first | (simp; done) | (simp; omega))) ?_)), ?_⟩ | refine .inl ⟨_, _, rfl, Sat.of_eq (l07Age_sat a ha (nthP ps i).1 (nthP ps i).2 hqi.1 hqi.2) (by repeat (first | rfl | exact vfull (by first | (simp [splice]; done) | (simp [splice]; omega)) | exact rfull (by first | (simp [splice]; done) | (simp [splice]; omega)) | exact vplace (by simp; done) (by omega) | exact vrow (by simp; done) (by omega) | exact vtiles (by simp) | exact vsplice (by simp) (by simp) | refine ceq ?_ ?_ | refine Eq.trans (vsplice (by first | (simp; done) | (simp; omega)) (by first | (simp; done) | (simp; omega))) ?_)), ?_⟩
    conv => whnf
    repeat (first | (refine And.intro (by first  | exact rfl | decide | omega | (simp [splice]; done) | (constructor <;> omega) | (simp [splice]; omega)) ?_; conv => whnf) | (refine optK_of (intA (by omega)) ?_; conv => whnf) | (refine optK_of (intA' (by omega)) ?_; conv => whnf) | (refine optK_of (markIA (by omega)) ?_; conv => whnf) | (refine optK_of (gridN (by omega) (by omega)) ?_; conv => whnf) | (refine optK_of (placeA (by omega)) ?_; conv => whnf) | (refine optK_of (placeB (by omega)) ?_; conv => whnf) | (refine optK_of (placeA' (by omega)) ?_; conv => whnf) | (refine optK_of (placeB' (by omega)) ?_; conv => whnf))
    have setA : (intsC (cpM (negA a) ps i)).set (0 + (i : Int).toNat * 1) (.int .i64 (IntKind.i64.wrap (0 - a (nthP ps i).1 (nthP ps i).2))) = intsC (cpM (negA a) ps (i + 1)) := by
      rw [show IntKind.i64.wrap (0 - a (nthP ps i).1 (nthP ps i).2) = negA a (nthP ps i) by unfold negA; rw [w64 (by omega) (by omega)]; omega]
      rw [show 0 + (i : Int).toNat * 1 = i by omega, intsC_set, cpM_next _ hin]
    refine ⟨i + 1, ?_, ?_, sim_of (rn := [((5, 0, 0), (5, 0, 0)), ((35, 0, 0), (35, 0, 0)), ((41, 0, 0), (41, 0, 0)), ((44, 0, 0), (44, 0, 0))]) rfl ?_ ?_⟩
    · (dsimp only; omega)
    · first | omega | (dsimp only; omega) | ((repeat' apply And.intro) <;> omega) | (dsimp only; (repeat' apply And.intro) <;> omega) | trivial
    · ((repeat' (first | exact trivial | apply And.intro)) <;> (first | rfl | exact succ8 (by omega) | exact succ64 (by omega) | exact CapOk.fn (by assumption) _ _ | exact vintS (by omega) | exact vintS (by rw [w64 (by omega) (by omega)]; omega) | exact vintS (by rw [w8 (by omega) (by omega)]; omega) | exact vslcS (by omega) | exact vslcS (by simp)))
    · ((repeat' (first | exact trivial | apply And.intro)) <;> ((first | refine ⟨_, _, rfl, rfl, ?_⟩ ); first | rfl | (exact cset setA)))
  have hin : i = ps.length := by simp at h; omega
  subst hin
  rw [cpM_all]
  have hlm : ps.length = (ps.map (negA a)).length := by simp
  have hbm : ∀ k, k < (ps.map (negA a)).length → In3 (ix (ps.map (negA a)) k) := by
    intro k hk
    obtain ⟨q, hq, e⟩ := List.mem_map.1 (ix_mem hk)
    obtain ⟨i, hi⟩ := List.getElem?_of_mem hq
    have hil : i < ps.length := (List.getElem?_eq_some_iff.1 hi).1
    have hai := hag i hil
    rw [nthP_some hil] at hi
    simp only [Option.some.injEq] at hi
    rw [hi] at hai
    rw [← e]
    unfold In3 negA
    omega
  have hb0 : (ps.map (negA a)).length ≤ 72 := by rw [List.length_map]; exact hsz.2
  rw [hlm]
  generalize ps.map (negA a) = b0 at *
  conv => whnf
  repeat (first | (refine And.intro (by first  | exact rfl | decide | omega | (simp [splice]; done) | (constructor <;> omega) | (simp [splice]; omega)) ?_; conv => whnf) | (refine optK_of (intA (by omega)) ?_; conv => whnf) | (refine optK_of (intA' (by omega)) ?_; conv => whnf) | (refine optK_of (markIA (by omega)) ?_; conv => whnf) | (refine optK_of (gridN (by omega) (by omega)) ?_; conv => whnf) | (refine optK_of (placeA (by omega)) ?_; conv => whnf) | (refine optK_of (placeB (by omega)) ?_; conv => whnf) | (refine optK_of (placeA' (by omega)) ?_; conv => whnf) | (refine optK_of (placeB' (by omega)) ?_; conv => whnf))
  refine loop_rule (α := Nat) (fun i => [(2, .v (.int .i64 life)), (3, .v (.int .i64 years)), (11, .slc true 1 (35, 0, 0) 0 vs.length), (13, .slc true 2 (41, 0, 0) 0 b0.length), (14, .slc true 1 (44, 0, 0) 0 b0.length), (16, .slc true 1 (104, 0, 0) 0 (outI life years vs b0 i).length), (17, .v (.int .i64 i))]) (fun i => [((35, 0, 0), .v (.agg ⟨intsC vs⟩)), ((44, 0, 0), .v (.agg ⟨intsC (bornI life years vs b0 i)⟩)), ((104, 0, 0), .v (.agg ⟨intsC (outI life years vs b0 i)⟩))]) (fun i => i ≤ vs.length) (fun i => vs.length - i) (0) ?_ (sim_of (rn := [((35, 0, 0), (35, 0, 0)), ((41, 0, 0), (41, 0, 0)), ((44, 0, 0), (44, 0, 0)), ((104, 0, 0), (60, 1, 0))]) rfl ?_ ?_) ?_
  · first | omega | (dsimp only; omega) | ((repeat' apply And.intro) <;> omega) | (dsimp only; (repeat' apply And.intro) <;> omega) | trivial
  · ((repeat' (first | exact trivial | apply And.intro)) <;> (first | rfl | exact succ8 (by omega) | exact succ64 (by omega) | exact CapOk.fn (by assumption) _ _ | exact vintS (by omega) | exact vintS (by rw [w64 (by omega) (by omega)]; omega) | exact vintS (by rw [w8 (by omega) (by omega)]; omega) | exact vslcS (by omega) | exact vslcS (by simp)))
  · ((repeat' (first | exact trivial | apply And.intro)) <;> ((first | refine ⟨_, _, rfl, rfl, ?_⟩ ); first | rfl | ((unfold outI; rw [intsC_nil]; rfl))))
  clear h
  intro i hi
  have hol := outI_len life years vs b0 i
  conv => whnf
  repeat (first | (refine And.intro (by first  | exact rfl | decide | omega | (simp [splice]; done) | (constructor <;> omega) | (simp [splice]; omega)) ?_; conv => whnf) | (refine optK_of (intA (by omega)) ?_; conv => whnf) | (refine optK_of (intA' (by omega)) ?_; conv => whnf) | (refine optK_of (markIA (by omega)) ?_; conv => whnf) | (refine optK_of (gridN (by omega) (by omega)) ?_; conv => whnf) | (refine optK_of (placeA (by omega)) ?_; conv => whnf) | (refine optK_of (placeB (by omega)) ?_; conv => whnf) | (refine optK_of (placeA' (by omega)) ?_; conv => whnf) | (refine optK_of (placeB' (by omega)) ?_; conv => whnf))
  cases h : decide ((i : Int) < (vs.length : Int))
  · have hin : i = vs.length := by simp at h; omega
    subst hin
    conv => whnf
    repeat (first | (refine And.intro (by first  | exact rfl | decide | omega | (simp [splice]; done) | (constructor <;> omega) | (simp [splice]; omega)) ?_; conv => whnf) | (refine optK_of (intA (by omega)) ?_; conv => whnf) | (refine optK_of (intA' (by omega)) ?_; conv => whnf) | (refine optK_of (markIA (by omega)) ?_; conv => whnf) | (refine optK_of (gridN (by omega) (by omega)) ?_; conv => whnf) | (refine optK_of (placeA (by omega)) ?_; conv => whnf) | (refine optK_of (placeB (by omega)) ?_; conv => whnf) | (refine optK_of (placeA' (by omega)) ?_; conv => whnf) | (refine optK_of (placeB' (by omega)) ?_; conv => whnf))
    first | refine ⟨rfl, _, rfl, ?_⟩ | refine ⟨_, rfl, ?_⟩
    rfl
  have hin : i < vs.length := by simpa using h
  have ei : IntKind.i64.wrap ((i : Int) + 1) = ((i + 1 : Nat) : Int) := by rw [w64 (by omega) (by omega)]; omega
  conv => whnf
  repeat (first | (refine And.intro (by first  | exact rfl | decide | omega | (simp [splice]; done) | (constructor <;> omega) | (simp [splice]; omega)) ?_; conv => whnf) | (refine optK_of (intA (by omega)) ?_; conv => whnf) | (refine optK_of (intA' (by omega)) ?_; conv => whnf) | (refine optK_of (markIA (by omega)) ?_; conv => whnf) | (refine optK_of (gridN (by omega) (by omega)) ?_; conv => whnf) | (refine optK_of (placeA (by omega)) ?_; conv => whnf) | (refine optK_of (placeB (by omega)) ?_; conv => whnf) | (refine optK_of (placeA' (by omega)) ?_; conv => whnf) | (refine optK_of (placeB' (by omega)) ?_; conv => whnf))
  rw [ei]
  cases h9 : decide (((i + 1 : Nat) : Int) < (vs.length : Int))
  all_goals
    (try have h9' : i + 1 < vs.length := by simp only [decide_eq_true_eq] at h9; omega)
    conv => whnf
    repeat (first | (refine And.intro (by first  | exact rfl | decide | omega | (simp [splice]; done) | (constructor <;> omega) | (simp [splice]; omega)) ?_; conv => whnf) | (refine optK_of (intA (by omega)) ?_; conv => whnf) | (refine optK_of (intA' (by omega)) ?_; conv => whnf) | (refine optK_of (markIA (by omega)) ?_; conv => whnf) | (refine optK_of (gridN (by omega) (by omega)) ?_; conv => whnf) | (refine optK_of (placeA (by omega)) ?_; conv => whnf) | (refine optK_of (placeB (by omega)) ?_; conv => whnf) | (refine optK_of (placeA' (by omega)) ?_; conv => whnf) | (refine optK_of (placeB' (by omega)) ?_; conv => whnf))
    (try rw [ei])
    repeat (first | (refine And.intro (by first  | exact rfl | decide | omega | (simp [splice]; done) | (constructor <;> omega) | (simp [splice]; omega)) ?_; conv => whnf) | (refine optK_of (intA (by omega)) ?_; conv => whnf) | (refine optK_of (intA' (by omega)) ?_; conv => whnf) | (refine optK_of (markIA (by omega)) ?_; conv => whnf) | (refine optK_of (gridN (by omega) (by omega)) ?_; conv => whnf) | (refine optK_of (placeA (by omega)) ?_; conv => whnf) | (refine optK_of (placeB (by omega)) ?_; conv => whnf) | (refine optK_of (placeA' (by omega)) ?_; conv => whnf) | (refine optK_of (placeB' (by omega)) ?_; conv => whnf))
    have hbl := bornI_len life years vs b0 i
    have hbi := bornI_in (life := life) (years := years) hvi hbm i hi
    have hnx := nxAt_in (years := years) hvi hy i
    refine loop_rule (α := Nat) (fun k => [(2, .v (.int .i64 life)), (3, .v (.int .i64 years)), (11, .slc true 1 (35, 0, 0) 0 vs.length), (13, .slc true 2 (41, 0, 0) 0 b0.length), (14, .slc true 1 (44, 0, 0) 0 b0.length), (16, .slc true 1 (104, 0, 0) 0 (outI life years vs b0 i).length), (17, .v (.int .i64 i)), (18, .v (.int .i64 (nxAt years vs i))), (19, .v (.int .i64 (cntS life (nxAt years vs i) (bornI life years vs b0 i) k : Nat))), (20, .v (.int .i64 k))]) (fun k => [((35, 0, 0), .v (.agg ⟨intsC vs⟩)), ((44, 0, 0), .v (.agg ⟨intsC (bornS life (nxAt years vs i) (ix vs i) (bornI life years vs b0 i) k)⟩)), ((104, 0, 0), .v (.agg ⟨intsC (outI life years vs b0 i)⟩))]) (fun k => k ≤ b0.length) (fun k => b0.length - k) (0) ?_ (sim_of (rn := [((35, 0, 0), (35, 0, 0)), ((41, 0, 0), (41, 0, 0)), ((44, 0, 0), (44, 0, 0)), ((104, 0, 0), (104, 0, 0))]) rfl ?_ ?_) ?_
    · first | omega | (dsimp only; omega) | ((repeat' apply And.intro) <;> omega) | (dsimp only; (repeat' apply And.intro) <;> omega) | trivial
    · ((repeat' (first | exact trivial | apply And.intro)) <;> (first | rfl | (first | exact vintS (nx_t h9) | exact vintS (nx_f h9)) | exact succ8 (by omega) | exact succ64 (by omega) | exact CapOk.fn (by assumption) _ _ | exact vintS (by omega) | exact vintS (by rw [w64 (by omega) (by omega)]; omega) | exact vintS (by rw [w8 (by omega) (by omega)]; omega) | exact vslcS (by omega) | exact vslcS (by simp)))
    · ((repeat' (first | exact trivial | apply And.intro)) <;> ((first | refine ⟨_, _, rfl, rfl, ?_⟩ ); first | rfl | (rw [bornS_zero]; rfl)))
    intro k hk
    have hsl := bornS_len life (nxAt years vs i) (ix vs i) (bornI life years vs b0 i) k
    have hcl := cntS_le (life := life) (nx := nxAt years vs i) (born := bornI life years vs b0 i) (k := k)
    clear h9
    conv => whnf
    repeat (first | (refine And.intro (by first  | exact rfl | decide | omega | (simp [splice]; done) | (constructor <;> omega) | (simp [splice]; omega)) ?_; conv => whnf) | (refine optK_of (intA (by omega)) ?_; conv => whnf) | (refine optK_of (intA' (by omega)) ?_; conv => whnf) | (refine optK_of (markIA (by omega)) ?_; conv => whnf) | (refine optK_of (gridN (by omega) (by omega)) ?_; conv => whnf) | (refine optK_of (placeA (by omega)) ?_; conv => whnf) | (refine optK_of (placeB (by omega)) ?_; conv => whnf) | (refine optK_of (placeA' (by omega)) ?_; conv => whnf) | (refine optK_of (placeB' (by omega)) ?_; conv => whnf))
    cases h10 : decide ((k : Int) < (b0.length : Int))
    · have hkb : k = b0.length := by simp at h10; omega
      subst hkb
      conv => whnf
      repeat (first | (refine And.intro (by first  | exact rfl | decide | omega | (simp [splice]; done) | (constructor <;> omega) | (simp [splice]; omega)) ?_; conv => whnf) | (refine optK_of (intA (by omega)) ?_; conv => whnf) | (refine optK_of (intA' (by omega)) ?_; conv => whnf) | (refine optK_of (markIA (by omega)) ?_; conv => whnf) | (refine optK_of (gridN (by omega) (by omega)) ?_; conv => whnf) | (refine optK_of (placeA (by omega)) ?_; conv => whnf) | (refine optK_of (placeB (by omega)) ?_; conv => whnf) | (refine optK_of (placeA' (by omega)) ?_; conv => whnf) | (refine optK_of (placeB' (by omega)) ?_; conv => whnf))
      have e2 : intsC (outI life years vs b0 i) ++ [.int .i64 (cntS life (nxAt years vs i) (bornI life years vs b0 i) b0.length : Nat)] = intsC (outI life years vs b0 (i + 1)) := by rw [← intsC_one, ← intsC_append]; rfl
      refine ⟨i + 1, ?_, ?_, sim_of (rn := [((35, 0, 0), (35, 0, 0)), ((41, 0, 0), (41, 0, 0)), ((44, 0, 0), (44, 0, 0)), ((104, 0, 0), (104, 1, 0))]) rfl ?_ ?_⟩
      · (dsimp only; omega)
      · first | omega | (dsimp only; omega) | ((repeat' apply And.intro) <;> omega) | (dsimp only; (repeat' apply And.intro) <;> omega) | trivial
      · ((repeat' (first | exact trivial | apply And.intro)) <;> (first | rfl | exact succ8 (by omega) | exact succ64 (by omega) | exact CapOk.fn (by assumption) _ _ | exact vintS (by omega) | exact vintS (by rw [w64 (by omega) (by omega)]; omega) | exact vintS (by rw [w8 (by omega) (by omega)]; omega) | exact vslcS (by omega) | exact vslcS (by simp)))
      · ((repeat' (first | exact trivial | apply And.intro)) <;> ((first | refine ⟨_, _, rfl, rfl, ?_⟩ ); first | rfl | (exact cset e2)))
    have hkb : k < b0.length := by simpa using h10
    have hbk := hbi k hkb
    unfold In3 at hbk hnx
    conv => whnf
    repeat (first | (refine And.intro (by first  | exact rfl | decide | omega | (simp [splice]; done) | (constructor <;> omega) | (simp [splice]; omega)) ?_; conv => whnf) | (refine optK_of (intA (by omega)) ?_; conv => whnf) | (refine optK_of (intA' (by omega)) ?_; conv => whnf) | (refine optK_of (markIA (by omega)) ?_; conv => whnf) | (refine optK_of (gridN (by omega) (by omega)) ?_; conv => whnf) | (refine optK_of (placeA (by omega)) ?_; conv => whnf) | (refine optK_of (placeB (by omega)) ?_; conv => whnf) | (refine optK_of (placeA' (by omega)) ?_; conv => whnf) | (refine optK_of (placeB' (by omega)) ?_; conv => whnf))
    rw [bornS_at (by omega)]
    rw [show IntKind.i64.wrap (nxAt years vs i - ix (bornI life years vs b0 i) k) = nxAt years vs i - ix (bornI life years vs b0 i) k from w64 (by omega) (by omega)]
    cases h11 : decide (nxAt years vs i - ix (bornI life years vs b0 i) k > life)
    · have h11' : ¬ nxAt years vs i - ix (bornI life years vs b0 i) k > life := by simpa using h11
      have ec : cntS life (nxAt years vs i) (bornI life years vs b0 i) (k + 1) = cntS life (nxAt years vs i) (bornI life years vs b0 i) k := by rw [cntS_next (by omega), if_neg h11']; rfl
      rw [← bornS_no (by omega) h11', ← ec]
      conv => whnf
      repeat (first | (refine And.intro (by first  | exact rfl | decide | omega | (simp [splice]; done) | (constructor <;> omega) | (simp [splice]; omega)) ?_; conv => whnf) | (refine optK_of (intA (by omega)) ?_; conv => whnf) | (refine optK_of (intA' (by omega)) ?_; conv => whnf) | (refine optK_of (markIA (by omega)) ?_; conv => whnf) | (refine optK_of (gridN (by omega) (by omega)) ?_; conv => whnf) | (refine optK_of (placeA (by omega)) ?_; conv => whnf) | (refine optK_of (placeB (by omega)) ?_; conv => whnf) | (refine optK_of (placeA' (by omega)) ?_; conv => whnf) | (refine optK_of (placeB' (by omega)) ?_; conv => whnf))
      refine ⟨k + 1, ?_, ?_, sim_of (rn := [((35, 0, 0), (35, 0, 0)), ((41, 0, 0), (41, 0, 0)), ((44, 0, 0), (44, 0, 0)), ((104, 0, 0), (104, 0, 0))]) rfl ?_ ?_⟩
      · (dsimp only; omega)
      · first | omega | (dsimp only; omega) | ((repeat' apply And.intro) <;> omega) | (dsimp only; (repeat' apply And.intro) <;> omega) | trivial
      · ((repeat' (first | exact trivial | apply And.intro)) <;> (first | rfl | exact succ8 (by omega) | exact succ64 (by omega) | exact CapOk.fn (by assumption) _ _ | exact vintS (by omega) | exact vintS (by rw [w64 (by omega) (by omega)]; omega) | exact vintS (by rw [w8 (by omega) (by omega)]; omega) | exact vslcS (by omega) | exact vslcS (by simp)))
      · ((repeat' (first | exact trivial | apply And.intro)) <;> ((first | refine ⟨_, _, rfl, rfl, ?_⟩ ); rfl))
    have h11' : nxAt years vs i - ix (bornI life years vs b0 i) k > life := by simpa using h11
    have ec : cntS life (nxAt years vs i) (bornI life years vs b0 i) (k + 1) = cntS life (nxAt years vs i) (bornI life years vs b0 i) k + 1 := by rw [cntS_next (by omega), if_pos h11']
    conv => whnf
    repeat (first | (refine And.intro (by first  | exact rfl | decide | omega | (simp [splice]; done) | (constructor <;> omega) | (simp [splice]; omega)) ?_; conv => whnf) | (refine optK_of (intA (by omega)) ?_; conv => whnf) | (refine optK_of (intA' (by omega)) ?_; conv => whnf) | (refine optK_of (markIA (by omega)) ?_; conv => whnf) | (refine optK_of (gridN (by omega) (by omega)) ?_; conv => whnf) | (refine optK_of (placeA (by omega)) ?_; conv => whnf) | (refine optK_of (placeB (by omega)) ?_; conv => whnf) | (refine optK_of (placeA' (by omega)) ?_; conv => whnf) | (refine optK_of (placeB' (by omega)) ?_; conv => whnf))
    have setA : (intsC (bornS life (nxAt years vs i) (ix vs i) (bornI life years vs b0 i) k)).set (0 + (k : Int).toNat * 1) (.int .i64 (ix vs i)) = intsC (bornS life (nxAt years vs i) (ix vs i) (bornI life years vs b0 i) (k + 1)) := by
      rw [show 0 + (k : Int).toNat * 1 = k by omega, intsC_set, bornS_yes (by omega) h11']
    refine ⟨k + 1, ?_, ?_, sim_of (rn := [((35, 0, 0), (35, 0, 0)), ((41, 0, 0), (41, 0, 0)), ((44, 0, 0), (44, 0, 0)), ((104, 0, 0), (104, 0, 0))]) rfl ?_ ?_⟩
    · (dsimp only; omega)
    · first | omega | (dsimp only; omega) | ((repeat' apply And.intro) <;> omega) | (dsimp only; (repeat' apply And.intro) <;> omega) | trivial
    · ((repeat' (first | exact trivial | apply And.intro)) <;> (first | rfl | (exact vintS (by rw [ec, w64 (by omega) (by omega)]; omega)) | exact succ8 (by omega) | exact succ64 (by omega) | exact CapOk.fn (by assumption) _ _ | exact vintS (by omega) | exact vintS (by rw [w64 (by omega) (by omega)]; omega) | exact vintS (by rw [w8 (by omega) (by omega)]; omega) | exact vslcS (by omega) | exact vslcS (by simp)))
    · ((repeat' (first | exact trivial | apply And.intro)) <;> ((first | refine ⟨_, _, rfl, rfl, ?_⟩ ); first | rfl | (exact cset setA)))
end Go.Proofs.Ytecjkbgepbefcaa
/- Plain words: lists of strings. -/
set_option linter.unusedVariables false
set_option linter.unusedSimpArgs false
namespace Go.V
@[irreducible] def strsC (ws : List ByteArray) : List Value := ws.map Value.string
theorem strsC_def (ws : List ByteArray) : strsC ws = ws.map Value.string := by unfold strsC; rfl
@[simp] theorem strsC_len (ws : List ByteArray) : (strsC ws).length = ws.length := by simp [strsC_def]
end Go.V
/- Contracts: the nearest pattern, both sides, and the law. -/
set_option linter.unusedVariables false
set_option linter.unusedSimpArgs false
namespace Go.V
end Go.V
namespace Go.Proofs.Ytecjkbgepbefcaa
open Go.V
end Go.Proofs.Ytecjkbgepbefcaa
/- Plain words: gutters, their pipes, and water. -/
set_option linter.unusedVariables false
set_option linter.unusedSimpArgs false
namespace Go.V
structure Gut where
  n : Int
  dp : Int
  h : Nat → Int
  lv : Int
  ps : List (Int × Int)
def px (ps : List (Int × Int)) (i : Nat) : Int × Int := ps.getD i (0, 0)
structure Gut.In (g : Gut) : Prop where
  n : -128 ≤ g.n ∧ g.n ≤ 127
  dp : -32768 ≤ g.dp ∧ g.dp ≤ 32767
  h : ∀ i, -128 ≤ g.h i ∧ g.h i ≤ 127
  lv : 0 ≤ g.lv ∧ g.lv ≤ 4294967295
  ps : ∀ i, i < g.ps.length → (-128 ≤ (px g.ps i).1 ∧ (px g.ps i).1 ≤ 127) ∧ (-32768 ≤ (px g.ps i).2 ∧ (px g.ps i).2 ≤ 32767)
  len : g.ps.length ≤ 9223372036854775807
@[irreducible] def pipesC (ps : List (Int × Int)) : List Value := ps.flatMap fun q => [.int .i8 q.1, .int .i16 q.2]
theorem pipesC_def (ps : List (Int × Int)) : pipesC ps = ps.flatMap fun q => [.int .i8 q.1, .int .i16 q.2] := by unfold pipesC; rfl
theorem pipesC_cons (q : Int × Int) (ps : List (Int × Int)) : pipesC (q :: ps) = .int .i8 q.1 :: .int .i16 q.2 :: pipesC ps := by simp [pipesC_def]
theorem pipesC_nil : pipesC [] = [] := by simp [pipesC_def]
@[simp] theorem pipesC_len (ps : List (Int × Int)) : (pipesC ps).length = ps.length * 2 := by
  induction ps with
  | nil => simp [pipesC_nil]
  | cons q ps ih => simp only [pipesC_cons, List.length_cons, ih]; omega
def hV (h : Nat → Int) : List Value := [.int .i8 (h 0), .int .i8 (h 1), .int .i8 (h 2), .int .i8 (h 3), .int .i8 (h 4), .int .i8 (h 5), .int .i8 (h 6), .int .i8 (h 7), .int .i8 (h 8), .int .i8 (h 9), .int .i8 (h 10), .int .i8 (h 11), .int .i8 (h 12), .int .i8 (h 13), .int .i8 (h 14), .int .i8 (h 15), .int .i8 (h 16)]
/-- Water. -/
def watC (w : Nat → Int) : List Value := tab 17 fun i => .int .i32 (w i)
@[simp] theorem watC_len (w : Nat → Int) : (watC w).length = 17 := by simp [watC]
end Go.V
/- Contracts: what the laws do with gutters and water. -/
set_option linter.unusedVariables false
set_option linter.unusedSimpArgs false
namespace Go.V
/-- Heights as cells. -/
def hC (h : Nat → Int) : List Value := tab 17 fun i => .int .i8 (h i)
@[simp] theorem hC_len (h : Nat → Int) : (hC h).length = 17 := by simp [hC]
end Go.V
namespace Go.Proofs.Ytecjkbgepbefcaa
open Go.V
end Go.Proofs.Ytecjkbgepbefcaa
/- Contracts: valid gutters and water, both sides. -/
set_option linter.unusedVariables false
set_option linter.unusedSimpArgs false
namespace Go.V
end Go.V
namespace Go.Proofs.Ytecjkbgepbefcaa
open Go.V
end Go.Proofs.Ytecjkbgepbefcaa
/- Plain words: what a minute does with the water in a gutter. -/
set_option linter.unusedVariables false
set_option linter.unusedSimpArgs false
namespace Go.V
def upL (n : Nat) : List Int := (List.range n).map fun i => Int.ofNat i
@[simp] theorem upL_len (n : Nat) : (upL n).length = n := by simp [upL]
end Go.V
/- Contracts: where water flows, a minute, and several, both sides; the laws. -/
set_option linter.unusedVariables false
set_option linter.unusedSimpArgs false
namespace Go.Proofs.Ytecjkbgepbefcaa
open Go.V
end Go.Proofs.Ytecjkbgepbefcaa
/- Contracts: a minute, and several, both sides; the laws. -/
set_option linter.unusedVariables false
set_option linter.unusedSimpArgs false
namespace Go.V
end Go.V
namespace Go.Proofs.Ytecjkbgepbefcaa
open Go.V
end Go.Proofs.Ytecjkbgepbefcaa
/- Plain words: the first least of a list; a gutter without leaves in a cell. -/
set_option linter.unusedVariables false
set_option linter.unusedSimpArgs false
namespace Go.V
def nx (ls : List Nat) (i : Nat) : Nat := ls.getD i 0
def toI (ls : List Nat) : List Int := ls.map Int.ofNat
@[simp] theorem toI_len (ls : List Nat) : (toI ls).length = ls.length := by simp [toI]
end Go.V
/- Contracts: the cell whose leaves are best taken away, both sides, and the law. -/
set_option linter.unusedVariables false
set_option linter.unusedSimpArgs false
namespace Go.V
end Go.V
namespace Go.Proofs.Ytecjkbgepbefcaa
open Go.V
end Go.Proofs.Ytecjkbgepbefcaa
/- Plain words: rain that runs down a roof. -/
set_option linter.unusedVariables false
set_option linter.unusedSimpArgs false
namespace Go.V
/-- Rain. -/
def raiC (w : Nat → Int) : List Value := tab 17 fun i => .int .i16 (w i)
@[simp] theorem raiC_len (w : Nat → Int) : (raiC w).length = 17 := by simp [raiC]
/-- What drips: eight courses of seventeen cells. -/
def dripC (f : Nat → Nat → Int) : List Value := tab 136 fun k => .int .i32 (f (k / 17) (k % 17))
@[simp] theorem dripC_len (f : Nat → Nat → Int) : (dripC f).length = 136 := by simp [dripC]
/-- Which tile covers a cell of a course, and of what kind it is. -/
def shN (r : Roof) (i : Nat) : Nat := (i + r.s.toNat) % 2
def tlI (r : Roof) (i c : Nat) : Int := if c < shN r i then -1 else if (((c - shN r i) / 2 : Nat) : Int) < r.w then (((c - shN r i) / 2 : Nat) : Int) else -1
def ovI (r : Roof) (i c : Nat) : Int := if tlI r i c < 0 then 0 else r.t i (tlI r i c).toNat
def drI (r : Roof) (i c : Nat) (n : Int) : Int :=
  if ovI r i c = 1 then (n + 1).tdiv 2 else if ovI r i c = 2 then (n + 2).tdiv 3 else if ovI r i c = 3 then (if 0 < i ∧ ovI r (i - 1) c = 2 then 0 else n) else 0
theorem tlI_range (r : Roof) (i c : Nat) : -1 ≤ tlI r i c ∧ (tlI r i c < 0 ∨ tlI r i c < r.w) := by
  unfold tlI
  split
  · omega
  · split <;> omega
def wtI (r : Roof) (w : Nat → Int) (c : Nat) : Nat → Int
  | 0 => w c
  | i + 1 => wtI r w c i - drI r i c (wtI r w c i)
def onR (r : Roof) (i c : Nat) : Prop := (i : Int) < r.h ∧ (c : Int) < 2 * r.w + 1
instance (r : Roof) (i c : Nat) : Decidable (onR r i c) := by unfold onR; exact inferInstance
/-- Of a roof and rain: what drips, what comes to each course, what comes to the gutter. -/
def dR (r : Roof) (w : Nat → Int) (i c : Nat) : Int := if onR r i c then drI r i c (wtI r w c i) else 0
def gtL (r : Roof) (w : Nat → Int) (n : Nat) : List Int := (List.range n).map fun c => wtI r w c r.h.toNat
@[simp] theorem gtL_len (r : Roof) (w : Nat → Int) (n : Nat) : (gtL r w n).length = n := by simp [gtL]
/-- The cells of a struct whose head is a table. -/
def dripL (f : Nat → Nat → Int) : List D := (dripC f).map D.v
@[simp] theorem dripL_len (f : Nat → Nat → Int) : (dripL f).length = 136 := by simp [dripL]
end Go.V
namespace Go.Proofs.Ytecjkbgepbefcaa
open Go.V
end Go.Proofs.Ytecjkbgepbefcaa
/- Contracts: rain that runs down a roof, both sides. -/
set_option linter.unusedVariables false
set_option linter.unusedSimpArgs false
namespace Go.V
end Go.V
namespace Go.Proofs.Ytecjkbgepbefcaa
open Go.V
section
variable (r : Roof) (hr : r.In) (hb : (1 ≤ r.w ∧ r.w ≤ 8) ∧ (1 ≤ r.h ∧ r.h ≤ 8) ∧ r.s ≤ 1)
include hr hb
end
end Go.Proofs.Ytecjkbgepbefcaa
/- Contracts: rain that runs down a roof, both sides. -/
set_option linter.unusedVariables false
set_option linter.unusedSimpArgs false
namespace Go.Proofs.Ytecjkbgepbefcaa
open Go.V
end Go.Proofs.Ytecjkbgepbefcaa
/- Plain words: rain that is valid, how much drips in all, the best tile to make whole. -/
set_option linter.unusedVariables false
set_option linter.unusedSimpArgs false
namespace Go.V
def smT (p : Nat → Int) : Nat → Int
  | 0 => 0
  | n + 1 => smT p n + p n
/-- The sum of a table's first rows. -/
def totS (f : Nat → Nat → Int) (n : Nat) : Int := smT (fun i => smT (f i) 17) n
theorem smT_zero {p : Nat → Int} {m : Nat} (h : ∀ i, i < m → p i = 0) : ∀ n, n ≤ m → smT p n = 0
  | 0, _ => rfl
  | n + 1, hn => by simp only [smT, smT_zero h n (by omega), h n (by omega), Int.add_zero]
/-- How much drips in all. -/
def dsI (r : Roof) (w : Nat → Int) : Int := totS (dR r w) 8
/-- How much less drips if a tile is whole. -/
def svI (r : Roof) (w : Nat → Int) (c k : Nat) : Int := dsI r w - dsI (putR r c k 0) w
def wrB (r : Roof) (c k : Nat) : Bool := r.t c k != 0
def wrP (r : Roof) : List Pl := allP r (wrB r)
theorem nthP_mem {ps : List Pl} {i : Nat} (h : i < ps.length) : nthP ps i ∈ ps := List.mem_of_getElem? (nthP_some h)
theorem bestL_mem2 {a : Nat → Nat → Int} {ps : List Pl} : ∀ {i : Nat}, i < ps.length → bestL a ps i ∈ ps
  | 0, h => nthP_mem h
  | i + 1, h => by
    simp only [bestL]
    split
    · exact nthP_mem h
    · exact bestL_mem2 (by omega)
/-- The tile that is best made whole. -/
def bwP (r : Roof) (w : Nat → Int) : Pl := bestL (svI r w) (wrP r) ((wrP r).length - 1)
def mdR (r : Roof) (w : Nat → Int) : Nat → Roof
  | 0 => r
  | n + 1 => putR (mdR r w n) (bwP (mdR r w n) w).1 (bwP (mdR r w n) w).2 0
def mdL (r : Roof) (w : Nat → Int) : Nat → List Pl
  | 0 => []
  | n + 1 => mdL r w n ++ [bwP (mdR r w n) w]
@[simp] theorem mdR_w (r : Roof) (w : Nat → Int) : ∀ n, (mdR r w n).w = r.w
  | 0 => rfl
  | n + 1 => mdR_w r w n
@[simp] theorem mdR_h (r : Roof) (w : Nat → Int) : ∀ n, (mdR r w n).h = r.h
  | 0 => rfl
  | n + 1 => mdR_h r w n
@[simp] theorem mdR_s (r : Roof) (w : Nat → Int) : ∀ n, (mdR r w n).s = r.s
  | 0 => rfl
  | n + 1 => mdR_s r w n
@[simp] theorem mdL_len (r : Roof) (w : Nat → Int) : ∀ n, (mdL r w n).length = n
  | 0 => rfl
  | n + 1 => by simp [mdL, mdL_len r w n]
theorem wrP_eq (r : Roof) : wrP r = (gridP r.w.toNat r.h.toNat).filter fun q => wrB r q.1 q.2 := allP_eq r _
theorem wrP_drop {r : Roof} {q : Pl} (h : q ∈ wrP r) : (wrP (putR r q.1 q.2 0)).length < (wrP r).length := by
  rw [wrP_eq] at h
  rw [wrP_eq, wrP_eq]
  show ((gridP r.w.toNat r.h.toNat).filter fun x => wrB (putR r q.1 q.2 0) x.1 x.2).length < _
  have e : ((gridP r.w.toNat r.h.toNat).filter fun x => wrB (putR r q.1 q.2 0) x.1 x.2) = ((gridP r.w.toNat r.h.toNat).filter fun q => wrB r q.1 q.2).filter fun x => x != q := by
    rw [List.filter_filter]
    apply List.filter_congr
    intro x _
    unfold wrB putR putG
    by_cases hx : x = q
    · subst hx; simp
    · have : ¬ (x.1 = q.1 ∧ x.2 = q.2) := fun h => hx (Prod.ext h.1 h.2)
      have hx' : (x != q) = true := by simpa using hx
      simp [this, hx']
  rw [e]
  exact List.length_filter_lt_length_iff_exists.2 ⟨q, h, by simp⟩
theorem wrP_ne {r : Roof} {w : Nat → Int} (hw : ∀ c, c < 17 → 0 ≤ w c ∧ w c ≤ 1000) (hb : (1 ≤ r.w ∧ r.w ≤ 8) ∧ (1 ≤ r.h ∧ r.h ≤ 8) ∧ r.s ≤ 1) (h : 0 < dsI r w) : 0 < (wrP r).length := by
  rcases Nat.eq_zero_or_pos (wrP r).length with h0 | h0
  · exfalso
    have hall : ∀ c k : Nat, (c : Int) < r.h → (k : Int) < r.w → r.t c k = 0 := by
      intro c k hc hk
      have hm : (c, k) ∈ gridP r.w.toNat r.h.toNat := by
        unfold gridP rowP
        simp only [List.mem_flatMap, List.mem_range, List.mem_map]
        exact ⟨c, by omega, k, by omega, rfl⟩
      rw [List.length_eq_zero_iff, wrP_eq] at h0
      have := List.filter_eq_nil_iff.1 h0 _ hm
      unfold wrB at this
      simpa using this
    have hd : ∀ i c, dR r w i c = 0 := by
      intro i c
      unfold dR
      split
      · rename_i hon
        have ho : ovI r i c = 0 := by
          have := tlI_range r i c
          unfold ovI
          split
          · rfl
          · exact hall _ _ hon.1 (by omega)
        unfold drI
        rw [ho]
        rfl
      · rfl
    have : dsI r w = 0 := by
      unfold dsI totS
      exact smT_zero (m := 8) (fun i _ => smT_zero (m := 17) (fun c _ => hd i c) 17 (Nat.le_refl _)) 8 (Nat.le_refl _)
    omega
  · exact h0
theorem bwP_mem {r : Roof} {w : Nat → Int} (h : 0 < (wrP r).length) : bwP r w ∈ wrP r := bestL_mem2 (by omega)
/-- What holds before each round. -/
structure MdOk (r : Roof) (w : Nat → Int) (b : Int) (n : Nat) : Prop where
  le : n + (wrP (mdR r w n)).length ≤ 64
  no : ∀ j, j < n → b < dsI (mdR r w j) w
theorem MdOk.zero {r : Roof} (hb : (1 ≤ r.w ∧ r.w ≤ 8) ∧ (1 ≤ r.h ∧ r.h ≤ 8) ∧ r.s ≤ 1) (w : Nat → Int) (b : Int) : MdOk r w b 0 :=
  ⟨by have := allP_len hb (wrB r); show 0 + (wrP r).length ≤ 64; unfold wrP; omega, fun j hj => by omega⟩
theorem MdOk.next {r : Roof} (hb : (1 ≤ r.w ∧ r.w ≤ 8) ∧ (1 ≤ r.h ∧ r.h ≤ 8) ∧ r.s ≤ 1) {w : Nat → Int} (hw : ∀ c, c < 17 → 0 ≤ w c ∧ w c ≤ 1000) {b : Int} (hb0 : 0 ≤ b) {n : Nat} (h : MdOk r w b n) (hd : b < dsI (mdR r w n) w) :
    0 < (wrP (mdR r w n)).length ∧ MdOk r w b (n + 1) := by
  have hne := wrP_ne (r := mdR r w n) hw (by simpa using hb) (by omega)
  refine ⟨hne, ?_, fun j hj => ?_⟩
  · have := wrP_drop (bwP_mem (w := w) hne)
    have h1 := h.le
    simp only [mdR]
    omega
  · by_cases hjn : j = n
    · subst hjn; exact hd
    · exact h.no j (by omega)
end Go.V
/- Contracts: whether rain is valid, how much drips in all, both sides. -/
set_option linter.unusedVariables false
set_option linter.unusedSimpArgs false
namespace Go.V
def rowsC (f : Nat → Nat → Int) (n : Nat) : List Value := ((dripC f).drop 0).take (n * 17)
@[simp] theorem rowsC_len {f : Nat → Nat → Int} {n : Nat} (h : n ≤ 8) : (rowsC f n).length = n * 17 := by unfold rowsC; simp; omega
def qL (q : Nat → Int) (n : Nat) : List Int := (List.range n).map q
@[simp] theorem qL_len (q : Nat → Int) (n : Nat) : (qL q n).length = n := by simp [qL]
end Go.V
namespace Go.Proofs.Ytecjkbgepbefcaa
open Go.V
end Go.Proofs.Ytecjkbgepbefcaa
/- Contracts: how much drips in all and how much a whole tile saves, both sides. -/
set_option linter.unusedVariables false
set_option linter.unusedSimpArgs false
namespace Go.V
abbrev Rb (r : Roof) : Prop := (1 ≤ r.w ∧ r.w ≤ 8) ∧ (1 ≤ r.h ∧ r.h ≤ 8) ∧ r.s ≤ 1
end Go.V
namespace Go.Proofs.Ytecjkbgepbefcaa
open Go.V
end Go.Proofs.Ytecjkbgepbefcaa
/- Contracts: the tile that is best made whole; tiles that are made whole until no more than so much drips; the law. -/
set_option linter.unusedVariables false
set_option linter.unusedSimpArgs false
namespace Go.V
end Go.V
namespace Go.Proofs.Ytecjkbgepbefcaa
open Go.V
end Go.Proofs.Ytecjkbgepbefcaa
/- Contracts: tiles that are made whole until no more than so much drips, both sides, and the law. -/
set_option linter.unusedVariables false
set_option linter.unusedSimpArgs false
namespace Go.V
end Go.V
namespace Go.Proofs.Ytecjkbgepbefcaa
open Go.V
end Go.Proofs.Ytecjkbgepbefcaa
/- Plain words: lists of things of a fixed number of cells; lists of roofs. -/
set_option linter.unusedVariables false
set_option linter.unusedSimpArgs false
namespace Go.V
section
variable {α : Type} {f : α → List Value} {n : Nat}
theorem fm_len (hf : ∀ x, (f x).length = n) : ∀ l : List α, (l.flatMap f).length = l.length * n
  | [] => by simp
  | x :: l => by rw [List.flatMap_cons, List.length_append, hf, fm_len hf l, List.length_cons, Nat.succ_mul]; omega
end
@[irreducible] def roofsC (rs : List Roof) : List Value := rs.flatMap roofC
theorem roofsC_def (rs : List Roof) : roofsC rs = rs.flatMap roofC := by unfold roofsC; rfl
@[simp] theorem roofsC_len (rs : List Roof) : (roofsC rs).length = rs.length * 67 := by rw [roofsC_def, fm_len roofC_len]
/-- What a pointer into a list of cells leads to, told as cells of its own. -/
theorem Rep.refSub {w : World} {base : Nat} {loc : Loc} {m : Bool} {xs ys : List Value} {off n : Nat} {y : Value} (h : Rep w base loc (.ref m (.v (.agg ⟨xs⟩)) off) y) (hn : (xs.drop off).take n = ys) (hl : ys.length = n) (hpos : 0 < n) :
    Rep w base loc (.ref m (.v (.agg ⟨ys⟩)) 0) y := by
  simp only [Rep] at h ⊢
  obtain ⟨b, o, zs, rfl, hat, hav, hm, hz, hfl⟩ := h
  cases hz
  refine ⟨b, o + off, ys, rfl, ?_, hav, hm, rfl, ?_⟩
  · obtain ⟨k, e, fr, h1, h2, h3⟩ := hat
    have hle : off + n ≤ xs.length := by
      have := congrArg List.length hn
      simp at this
      omega
    refine ⟨k, e, fr, h1, by omega, ?_⟩
    have : ((k.toList.drop o).take xs.length).drop off = xs.drop off := by rw [h3]
    rw [hl, ← hn, ← this, List.drop_take, List.take_take, List.drop_drop, show min n (xs.length - off) = n by omega]
  · simp only [Flat, List.all_eq_true] at hfl ⊢
    intro x hx
    rw [← hn] at hx
    exact hfl x (List.mem_of_mem_drop (List.mem_of_mem_take hx))
theorem Sat.sub {P : Program} {g : FuncId} {m : Bool} {xs ys : List Value} {off n : Nat} {rest : List D} {res : D} (h : Sat P g (.ref m (.v (.agg ⟨ys⟩)) 0 :: rest) res) (hn : (xs.drop off).take n = ys) (hl : ys.length = n) (hpos : 0 < n) :
    Sat P g (.ref m (.v (.agg ⟨xs⟩)) off :: rest) res := by
  refine ⟨h.1, fun w vs hr => h.2 w vs ?_⟩
  simp only [RepL] at hr ⊢
  obtain ⟨y, yss, rfl, h1, h2⟩ := hr
  exact ⟨y, yss, rfl, h1.refSub hn hl hpos, h2⟩
end Go.V
/- Contracts: what the laws do with lists of roofs; roofs that are all as told. -/
set_option linter.unusedVariables false
set_option linter.unusedSimpArgs false
namespace Go.V
def idxX {α : Type} (p : α → Bool) (d : α) (l : List α) : Int := match (List.range l.length).find? (fun i => p (l.getD i d)) with | some i => (i : Int) | none => -1
end Go.V
namespace Go.Proofs.Ytecjkbgepbefcaa
open Go.V
end Go.Proofs.Ytecjkbgepbefcaa
/- Contracts: roofs that are all as told; whether roofs might be. -/
set_option linter.unusedVariables false
set_option linter.unusedSimpArgs false
namespace Go.V
end Go.V
namespace Go.Proofs.Ytecjkbgepbefcaa
open Go.V
end Go.Proofs.Ytecjkbgepbefcaa
/- Contracts: numbers for roofs that drip alike, both sides. -/
set_option linter.unusedVariables false
set_option linter.unusedSimpArgs false
namespace Go.V
/-- Whether two tables are one. -/
def eqD (f g : Nat → Nat → Int) : Bool := (List.range 136).all fun k => f (k / 17) (k % 17) == g (k / 17) (k % 17)
abbrev Tb := Nat → Nat → Int
def zT : Tb := fun _ _ => 0
@[irreducible] def drsC (ds : List Tb) : List Value := ds.flatMap dripC
theorem drsC_def (ds : List Tb) : drsC ds = ds.flatMap dripC := by unfold drsC; rfl
@[simp] theorem drsC_len (ds : List Tb) : (drsC ds).length = ds.length * 136 := by rw [drsC_def, fm_len dripC_len]
/-- Where a table is met first. -/
def gIx (ds : List Tb) (f : Tb) : Int := idxX (eqD f) zT ds
def gNo (ds : List Tb) (f : Tb) : Nat := if gIx ds f < 0 then ds.length else (gIx ds f).toNat
/-- The tables that were met, and the numbers of the first i roofs. -/
def snL (F : Nat → Tb) : Nat → List Tb
  | 0 => []
  | i + 1 => if gIx (snL F i) (F i) < 0 then snL F i ++ [F i] else snL F i
def goL (F : Nat → Tb) (n : Nat) : List Int := qL (fun i => (gNo (snL F i) (F i) : Nat)) n
@[simp] theorem goL_len (F : Nat → Tb) (n : Nat) : (goL F n).length = n := qL_len _ n
theorem nth_part {a x y : D} : ∀ (q : Nat) (c : D), nth [a, x] q = some c → ∃ c0, nth [a, y] q = some c0 ∧ (c0 = c ∨ (c0 = y ∧ c = x))
  | 0, c, h => ⟨a, rfl, .inl (by simpa [nth] using h)⟩
  | 1, c, h => ⟨y, rfl, .inr ⟨rfl, by simpa [nth] using h.symm⟩⟩
  | n + 2, c, h => by simp [nth] at h
theorem cond_part {a x y : D} {c : D} {b : Bool} {q : Nat} (hc : (bif b then nth [a, x] q else none) = some c) : ∃ c0, (bif b then nth [a, y] q else none) = some c0 ∧ (c0 = c ∨ (c0 = y ∧ c = x)) := by
  cases b
  · cases hc
  · exact nth_part q c hc
theorem lentM_part {a x y : D} {id : Id} {c : D} (hc : lentM [a, x] id = some c) : ∃ c0, lentM [a, y] id = some c0 ∧ (c0 = c ∨ (c0 = y ∧ c = x)) := by
  unfold lentM at hc ⊢
  exact cond_part hc
/-- A nil slice in a variable, told as a part. -/
theorem Lent.part {w : World} {l0 : Loc} {a : D} (h : Lent w l0 [a, .v (.agg ⟨[.slice none 0 0]⟩)]) : Lent w l0 [a, .agg [.v (.slice none 0 0)]] := by
  have key : ∀ id c, lentM [a, .agg [.v (.slice none 0 0)]] id = some c → ∃ c0, lentM [a, .v (.agg ⟨[.slice none 0 0]⟩)] id = some c0 ∧ ((c0 = c) ∨ (c0 = .v (.agg ⟨[.slice none 0 0]⟩) ∧ c = .agg [.v (.slice none 0 0)])) :=
    fun id c hc => lentM_part hc
  refine ⟨h.dom, fun id c hc => ?_, h.range, fun id id' c c' b n n' h1 h2 h3 h4 => ?_⟩
  · obtain ⟨c0, g1, g2⟩ := key id c hc
    obtain ⟨l, xs, q1, q2, q3⟩ := h.mem id c0 g1
    rcases g2 with rfl | ⟨rfl, rfl⟩
    · exact ⟨l, xs, q1, q2, q3⟩
    · refine ⟨l, xs, q1, ?_, q3⟩
      simp only [Rep] at q2
      obtain ⟨q2, _⟩ := q2
      simp only [Value.agg.injEq] at q2
      cases q2
      simp only [Rep, RepL]
      exact ⟨_, rfl, ⟨_, _, rfl, ⟨rfl, rfl⟩, rfl⟩, rfl⟩
  · obtain ⟨c0, g1, _⟩ := key id c h1
    obtain ⟨c0', g1', _⟩ := key id' c' h2
    exact h.inj id id' _ _ b n n' g1 g1' h3 h4
theorem SatM.part {P : Program} {g : FuncId} {args : List D} {a res : D} {ms' : List (Option D)} {news : List D} (h : SatM P g args [a, .agg [.v (.slice none 0 0)]] res ms' news) : SatM P g args [a, .v (.agg ⟨[.slice none 0 0]⟩)] res ms' news :=
  ⟨h.1, fun w vs l0 hl hr => h.2 w vs l0 hl.part hr⟩
end Go.V
namespace Go.Proofs.Ytecjkbgepbefcaa
open Go.V
end Go.Proofs.Ytecjkbgepbefcaa
/- Contracts: numbers for roofs that drip alike, both sides, continued. -/
set_option linter.unusedVariables false
set_option linter.unusedSimpArgs false
namespace Go.V
end Go.V
namespace Go.Proofs.Ytecjkbgepbefcaa
open Go.V
end Go.Proofs.Ytecjkbgepbefcaa
/- Contracts: numbers for roofs that drip alike; the cell upon which rain has to fall; both sides, and the laws. -/
set_option linter.unusedVariables false
set_option linter.unusedSimpArgs false
namespace Go.V
end Go.V
namespace Go.Proofs.Ytecjkbgepbefcaa
open Go.V
end Go.Proofs.Ytecjkbgepbefcaa
