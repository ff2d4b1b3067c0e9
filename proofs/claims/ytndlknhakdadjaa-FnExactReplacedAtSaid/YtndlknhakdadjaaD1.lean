/- Contracts: something of each place; what has to be replaced, both sides, and the law. -/
import Derived.Test.YtndlknhakdadjaaC25
set_option linter.unusedVariables false
set_option linter.unusedSimpArgs false
namespace Go.V
def mapP (f : Pl → Int) (ps : List Pl) (i : Nat) : List Int := (ps.take i).map f
theorem mapP_zero (f : Pl → Int) (ps : List Pl) : mapP f ps 0 = [] := by simp [mapP]
theorem mapP_next (f : Pl → Int) {ps : List Pl} {i : Nat} (h : i < ps.length) : mapP f ps (i + 1) = mapP f ps i ++ [f (nthP ps i)] := by
  unfold mapP; rw [take_next h, List.map_append]; rfl
theorem mapP_all (f : Pl → Int) (ps : List Pl) : mapP f ps ps.length = ps.map f := by simp [mapP]
theorem mapP_len (f : Pl → Int) {ps : List Pl} {i : Nat} (h : i ≤ ps.length) : (mapP f ps i).length = i := by simp [mapP]; omega
def newB (life nx y b : Int) : Int := if nx - b > life then y else b
/-- The first k tiles seen to. -/
def bornS (life nx y : Int) (born : List Int) (k : Nat) : List Int := (born.take k).map (newB life nx y) ++ born.drop k
def cntS (life nx : Int) (born : List Int) (k : Nat) : Nat := (born.take k).countP fun b => decide (nx - b > life)
def nxAt (years : Int) (vs : List Int) (i : Nat) : Int := if i + 1 < vs.length then ix vs (i + 1) else years
def bornI (life years : Int) (vs b0 : List Int) : Nat → List Int
  | 0 => b0
  | i + 1 => bornS life (nxAt years vs i) (ix vs i) (bornI life years vs b0 i) b0.length
def outI (life years : Int) (vs b0 : List Int) : Nat → List Int
  | 0 => []
  | i + 1 => outI life years vs b0 i ++ [((cntS life (nxAt years vs i) (bornI life years vs b0 i) b0.length : Nat) : Int)]
theorem bornS_zero (life nx y : Int) (born : List Int) : bornS life nx y born 0 = born := by simp [bornS]
@[simp] theorem bornS_len (life nx y : Int) (born : List Int) (k : Nat) : (bornS life nx y born k).length = born.length := by
  simp [bornS]
  omega
@[simp] theorem bornI_len (life years : Int) (vs b0 : List Int) : ∀ i, (bornI life years vs b0 i).length = b0.length
  | 0 => rfl
  | i + 1 => by simp only [bornI, bornS_len]; exact bornI_len life years vs b0 i
@[simp] theorem outI_len (life years : Int) (vs b0 : List Int) : ∀ i, (outI life years vs b0 i).length = i
  | 0 => rfl
  | i + 1 => by simp only [outI, List.length_append, outI_len life years vs b0 i]; rfl
theorem bornS_at {life nx y : Int} {born : List Int} {k : Nat} (h : k < born.length) : ix (bornS life nx y born k) k = ix born k := by
  unfold ix bornS
  rw [List.getD_eq_getElem?_getD, List.getD_eq_getElem?_getD, List.getElem?_append_right (by simp; omega), List.getElem?_drop]
  simp only [List.length_map, List.length_take]
  rw [show k + (k - min k born.length) = k by omega]
theorem cntS_next {life nx : Int} {born : List Int} {k : Nat} (h : k < born.length) : cntS life nx born (k + 1) = cntS life nx born k + (if nx - ix born k > life then 1 else 0) := by
  unfold cntS
  rw [itake_next h, List.countP_append]
  congr 1
  by_cases hc : nx - ix born k > life <;> simp [hc]
theorem cntS_le {life nx : Int} {born : List Int} {k : Nat} : cntS life nx born k ≤ k := by
  unfold cntS
  refine Nat.le_trans List.countP_le_length ?_
  simp; omega
theorem bornS_no {life nx y : Int} {born : List Int} {k : Nat} (h : k < born.length) (hc : ¬ nx - ix born k > life) : bornS life nx y born (k + 1) = bornS life nx y born k := by
  unfold bornS
  rw [itake_next h, List.map_append, List.append_assoc, drop_ix (i := k) h]
  simp [newB, hc]
theorem bornS_yes {life nx y : Int} {born : List Int} {k : Nat} (h : k < born.length) (hc : nx - ix born k > life) : (bornS life nx y born k).set k y = bornS life nx y born (k + 1) := by
  unfold bornS
  have hl : ((born.take k).map (newB life nx y)).length = k := by simp; omega
  rw [List.set_append_right _ _ (by omega), hl, Nat.sub_self, drop_ix (i := k) h, List.set_cons_zero, itake_next h, List.map_append, List.append_assoc]
  simp [newB, hc]
theorem nx_t {years : Int} {vs : List Int} {i : Nat} (h : decide (((i + 1 : Nat) : Int) < (vs.length : Int)) = true) : nxAt years vs i = ix vs (i + 1) := by
  have : i + 1 < vs.length := by simp only [decide_eq_true_eq] at h; omega
  unfold nxAt; rw [if_pos this]
theorem nx_f {years : Int} {vs : List Int} {i : Nat} (h : decide (((i + 1 : Nat) : Int) < (vs.length : Int)) = false) : nxAt years vs i = years := by
  have : ¬ i + 1 < vs.length := by simp only [decide_eq_false_iff_not] at h; omega
  unfold nxAt; rw [if_neg this]
def In3 (x : Int) : Prop := -100 ≤ x ∧ x ≤ 300
theorem bornI_in {life years : Int} {vs b0 : List Int} (hv : ∀ i, i < vs.length → In3 (ix vs i)) (hb : ∀ k, k < b0.length → In3 (ix b0 k)) : ∀ i, i ≤ vs.length → ∀ k, k < b0.length → In3 (ix (bornI life years vs b0 i) k)
  | 0, _, k, hk => hb k hk
  | i + 1, hi, k, hk => by
    have ih := bornI_in (life := life) (years := years) hv hb i (by omega) k hk
    have hl := bornI_len life years vs b0 i
    simp only [bornI]
    unfold bornS
    rw [List.take_of_length_le (by omega), List.drop_of_length_le (by omega), List.append_nil]
    have : ix ((bornI life years vs b0 i).map (newB life (nxAt years vs i) (ix vs i))) k = newB life (nxAt years vs i) (ix vs i) (ix (bornI life years vs b0 i) k) := by
      have hk' : k < (bornI life years vs b0 i).length := by rw [hl]; exact hk
      unfold ix
      simp only [List.getD_eq_getElem?_getD, List.getElem?_map, List.getElem?_eq_getElem hk', Option.map_some, Option.getD_some]
    rw [this]
    unfold newB
    split
    · exact hv i (by omega)
    · exact ih
theorem nxAt_in {years : Int} {vs : List Int} (hv : ∀ i, i < vs.length → In3 (ix vs i)) (hy : 0 ≤ years ∧ years ≤ 200) (i : Nat) : In3 (nxAt years vs i) := by
  unfold nxAt
  split
  · exact hv _ (by assumption)
  · exact ⟨by omega, by omega⟩
theorem visL_mem {life years : Int} (hl : 1 ≤ life) : ∀ (f : Nat) (v x : Int), x ∈ visL life years f v → v ≤ x ∧ x < years
  | 0, v, x, h => by simp [visL] at h
  | f + 1, v, x, h => by
    simp only [visL] at h
    split at h
    · simp only [List.mem_cons] at h
      rcases h with rfl | h
      · exact ⟨Int.le_refl _, by assumption⟩
      · have := visL_mem hl f _ _ h; omega
    · simp at h
theorem ix_mem {xs : List Int} {i : Nat} (h : i < xs.length) : ix xs i ∈ xs := by
  unfold ix
  rw [List.getD_eq_getElem?_getD]
  simp [h]
def negA (a : Nat → Nat → Int) (q : Pl) : Int := -(a q.1 q.2)
def repX (r : Roof) (a : Nat → Nat → Int) (life years : Int) : List Int :=
  if visK r a life years = 0 then outI life years (visL life years 400 (life - ageP a (oldP r a))) ((gridP r.w.toNat r.h.toNat).map (negA a)) (visL life years 400 (life - ageP a (oldP r a))).length else []
def cpM (f : Pl → Int) (ps : List Pl) (i : Nat) : List Int := mapP f ps i ++ List.replicate (ps.length - i) 0
theorem cpM_len (f : Pl → Int) {ps : List Pl} {i : Nat} (h : i ≤ ps.length) : (cpM f ps i).length = ps.length := by
  unfold cpM; rw [List.length_append, mapP_len f h, List.length_replicate]; omega
theorem cpM_next (f : Pl → Int) {ps : List Pl} {i : Nat} (h : i < ps.length) : (cpM f ps i).set i (f (nthP ps i)) = cpM f ps (i + 1) := by
  unfold cpM
  have hl := mapP_len f (i := i) (Nat.le_of_lt h)
  rw [mapP_next f h, show ps.length - i = (ps.length - (i + 1)) + 1 by omega, List.replicate_succ, List.set_append_right _ _ (by omega), hl, Nat.sub_self, List.set_cons_zero, List.append_assoc, List.singleton_append]
theorem cpM_all (f : Pl → Int) (ps : List Pl) : cpM f ps ps.length = ps.map f := by simp [cpM, mapP_all]
theorem cpM_zero (f : Pl → Int) (ps : List Pl) : rep ps.length [Value.int .i64 0] = intsC (cpM f ps 0) := by
  simp [cpM, mapP, intsC_def, rep]
end Go.V
namespace Go.Proofs.Ytndlknhakdadjaa
open Go.V
theorem eachPI_sat {g : Nat} {caps : List D} {f : Pl → Int} (ps : List Pl) (hl : ps.length ≤ 1048576) (m : Bool) (hc : CapOk caps) (hg : ∀ i, i < ps.length → Sat Try.prog g (plD (nthP ps i) :: caps) (.v (.int .i64 (f (nthP ps i))))) :
    Sat Try.prog 71 [placesD m ps, .fn (.func g) [] caps] (intsD true (ps.map f)) := by
  refine satN_of_wp hMix tOk Try.func71 rfl rfl Try.ntmps71 rfl rfl Try.results71 (by kernel_rfl) ?_
  conv => whnf
  repeat (first | (refine And.intro (by first  | exact rfl | decide | omega | (simp [splice]; done) | (constructor <;> omega) | (simp [splice]; omega)) ?_; conv => whnf) | (refine optK_of (intA (by omega)) ?_; conv => whnf) | (refine optK_of (intA' (by omega)) ?_; conv => whnf) | (refine optK_of (markIA (by omega)) ?_; conv => whnf) | (refine optK_of (gridN (by omega) (by omega)) ?_; conv => whnf) | (refine optK_of (placeA (by omega)) ?_; conv => whnf) | (refine optK_of (placeB (by omega)) ?_; conv => whnf) | (refine optK_of (placeA' (by omega)) ?_; conv => whnf) | (refine optK_of (placeB' (by omega)) ?_; conv => whnf))
  refine loop_rule (α := Nat) (fun i => [(1, .fn (.func g) [] caps), (5, .slc true 1 (19, 0, 0) 0 (mapP f ps i).length), (8, placesD m ps), (9, .v (.int .i64 ps.length)), (10, .v (.int .i64 i))]) (fun i => [((19, 0, 0), .v (.agg ⟨intsC (mapP f ps i)⟩))]) (fun i => i ≤ ps.length) (fun i => ps.length - i) (0) ?_ (sim_of (rn := [((19, 0, 0), nilId)]) rfl ?_ ?_) ?_
  · first | omega | (dsimp only; omega) | ((repeat' apply And.intro) <;> omega) | (dsimp only; (repeat' apply And.intro) <;> omega) | trivial
  · ((repeat' (first | exact trivial | apply And.intro)) <;> (first | rfl | exact succ8 (by omega) | exact succ64 (by omega) | exact CapOk.fn (by assumption) _ _ | exact vintS (by omega) | exact vintS (by rw [w64 (by omega) (by omega)]; omega) | exact vintS (by rw [w8 (by omega) (by omega)]; omega) | exact vslcS (by omega) | exact vslcS (by simp)))
  · ((repeat' (first | exact trivial | apply And.intro)) <;> (refine ⟨_, _, rfl, rfl, ?_⟩; first | rfl | (rw [mapP_zero, intsC_nil]; rfl)))
  intro i hi
  have hml := mapP_len f hi
  conv => whnf
  repeat (first | (refine And.intro (by first  | exact rfl | decide | omega | (simp [splice]; done) | (constructor <;> omega) | (simp [splice]; omega)) ?_; conv => whnf) | (refine optK_of (intA (by omega)) ?_; conv => whnf) | (refine optK_of (intA' (by omega)) ?_; conv => whnf) | (refine optK_of (markIA (by omega)) ?_; conv => whnf) | (refine optK_of (gridN (by omega) (by omega)) ?_; conv => whnf) | (refine optK_of (placeA (by omega)) ?_; conv => whnf) | (refine optK_of (placeB (by omega)) ?_; conv => whnf) | (refine optK_of (placeA' (by omega)) ?_; conv => whnf) | (refine optK_of (placeB' (by omega)) ?_; conv => whnf))
  cases h : decide ((i : Int) < (ps.length : Int))
  · have hin : i = ps.length := by simp at h; omega
    subst hin
    rw [mapP_all]
    conv => whnf
    repeat (first | (refine And.intro (by first  | exact rfl | decide | omega | (simp [splice]; done) | (constructor <;> omega) | (simp [splice]; omega)) ?_; conv => whnf) | (refine optK_of (intA (by omega)) ?_; conv => whnf) | (refine optK_of (intA' (by omega)) ?_; conv => whnf) | (refine optK_of (markIA (by omega)) ?_; conv => whnf) | (refine optK_of (gridN (by omega) (by omega)) ?_; conv => whnf) | (refine optK_of (placeA (by omega)) ?_; conv => whnf) | (refine optK_of (placeB (by omega)) ?_; conv => whnf) | (refine optK_of (placeA' (by omega)) ?_; conv => whnf) | (refine optK_of (placeB' (by omega)) ?_; conv => whnf))
    first | refine ⟨rfl, _, rfl, [_], rfl, ?_, rfl⟩ | refine ⟨_, rfl, [_], rfl, ?_, rfl⟩
    ((repeat' (first | exact trivial | apply And.intro)) <;> first | exact .inl rfl | exact .inr ⟨rfl, rfl⟩)
  have hin : i < ps.length := by simpa using h
  conv => whnf
  repeat (first | (refine And.intro (by first  | exact rfl | decide | omega | (simp [splice]; done) | (constructor <;> omega) | (simp [splice]; omega)) ?_; conv => whnf) | (refine optK_of (intA (by omega)) ?_; conv => whnf) | (refine optK_of (intA' (by omega)) ?_; conv => whnf) | (refine optK_of (markIA (by omega)) ?_; conv => whnf) | (refine optK_of (gridN (by omega) (by omega)) ?_; conv => whnf) | (refine optK_of (placeA (by omega)) ?_; conv => whnf) | (refine optK_of (placeB (by omega)) ?_; conv => whnf) | (refine optK_of (placeA' (by omega)) ?_; conv => whnf) | (refine optK_of (placeB' (by omega)) ?_; conv => whnf))
  first | refine ⟨_, _, CapOk.one (by assumption) rfl, Sat.of_eq (hg i hin) (by repeat (first | rfl | exact vfull (by first | (simp [splice]; done) | (simp [splice]; omega)) | exact rfull (by first | (simp [splice]; done) | (simp [splice]; omega)) | exact vplace (by simp; done) (by omega) | exact vrow (by simp; done) (by omega) | exact vtiles (by simp) | exact vsplice (by simp) (by simp) | refine ceq ?_ ?_ | refine Eq.trans (vsplice (by first | (simp; done) | (simp; omega)) (by first | (simp; done) | (simp; omega))) ?_)), ?_⟩ | refine .inl ⟨_, _, CapOk.one (by assumption) rfl, Sat.of_eq (hg i hin) (by repeat (first | rfl | exact vfull (by first | (simp [splice]; done) | (simp [splice]; omega)) | exact rfull (by first | (simp [splice]; done) | (simp [splice]; omega)) | exact vplace (by simp; done) (by omega) | exact vrow (by simp; done) (by omega) | exact vtiles (by simp) | exact vsplice (by simp) (by simp) | refine ceq ?_ ?_ | refine Eq.trans (vsplice (by first | (simp; done) | (simp; omega)) (by first | (simp; done) | (simp; omega))) ?_)), ?_⟩
  conv => whnf
  repeat (first | (refine And.intro (by first  | exact rfl | decide | omega | (simp [splice]; done) | (constructor <;> omega) | (simp [splice]; omega)) ?_; conv => whnf) | (refine optK_of (intA (by omega)) ?_; conv => whnf) | (refine optK_of (intA' (by omega)) ?_; conv => whnf) | (refine optK_of (markIA (by omega)) ?_; conv => whnf) | (refine optK_of (gridN (by omega) (by omega)) ?_; conv => whnf) | (refine optK_of (placeA (by omega)) ?_; conv => whnf) | (refine optK_of (placeB (by omega)) ?_; conv => whnf) | (refine optK_of (placeA' (by omega)) ?_; conv => whnf) | (refine optK_of (placeB' (by omega)) ?_; conv => whnf))
  have e2 : intsC (mapP f ps i) ++ [.int .i64 (f (nthP ps i))] = intsC (mapP f ps (i + 1)) := by rw [mapP_next f hin, intsC_append, intsC_one]
  have hml' := mapP_len f (i := i + 1) (show i + 1 ≤ ps.length by omega)
  refine ⟨i + 1, ?_, ?_, sim_of (rn := [((19, 0, 0), (19, 1, 0))]) rfl ?_ ?_⟩
  · (dsimp only; omega)
  · first | omega | (dsimp only; omega) | ((repeat' apply And.intro) <;> omega) | (dsimp only; (repeat' apply And.intro) <;> omega) | trivial
  · ((repeat' (first | exact trivial | apply And.intro)) <;> (first | rfl | exact succ8 (by omega) | exact succ64 (by omega) | exact CapOk.fn (by assumption) _ _ | exact vintS (by omega) | exact vintS (by rw [w64 (by omega) (by omega)]; omega) | exact vintS (by rw [w8 (by omega) (by omega)]; omega) | exact vslcS (by omega) | exact vslcS (by simp)))
  · ((repeat' (first | exact trivial | apply And.intro)) <;> (refine ⟨_, _, rfl, rfl, ?_⟩; first | rfl | (exact cset e2)))
theorem replaced2_sat (a : Nat → Nat → Int) (ha : AgesIn a) (q : Pl) (hq : q.1 < 8 ∧ q.2 < 8) : Sat Try.prog 74 [plD q, .ref false (gridD a) 0] (.v (.int .i64 (negA a q))) := by
  have := ha.t q.1 q.2
  refine sat_of_wp hMix tOk Try.func74 rfl rfl Try.ntmps74 rfl rfl Try.results74 (by kernel_rfl) ?_
  conv => whnf
  repeat (first | (refine And.intro (by first  | exact rfl | decide | omega | (simp [splice]; done) | (constructor <;> omega) | (simp [splice]; omega)) ?_; conv => whnf) | (refine optK_of (intA (by omega)) ?_; conv => whnf) | (refine optK_of (intA' (by omega)) ?_; conv => whnf) | (refine optK_of (markIA (by omega)) ?_; conv => whnf) | (refine optK_of (gridN (by omega) (by omega)) ?_; conv => whnf) | (refine optK_of (placeA (by omega)) ?_; conv => whnf) | (refine optK_of (placeB (by omega)) ?_; conv => whnf) | (refine optK_of (placeA' (by omega)) ?_; conv => whnf) | (refine optK_of (placeB' (by omega)) ?_; conv => whnf))
  first | refine ⟨_, _, rfl, Sat.of_eq (at_sat a ha q.1 q.2 hq.1 hq.2) (by repeat (first | rfl | exact vfull (by first | (simp [splice]; done) | (simp [splice]; omega)) | exact rfull (by first | (simp [splice]; done) | (simp [splice]; omega)) | exact vplace (by simp; done) (by omega) | exact vrow (by simp; done) (by omega) | exact vtiles (by simp) | exact vsplice (by simp) (by simp) | refine ceq ?_ ?_ | refine Eq.trans (vsplice (by first | (simp; done) | (simp; omega)) (by first | (simp; done) | (simp; omega))) ?_)), ?_⟩ | refine .inl ⟨_, _, rfl, Sat.of_eq (at_sat a ha q.1 q.2 hq.1 hq.2) (by repeat (first | rfl | exact vfull (by first | (simp [splice]; done) | (simp [splice]; omega)) | exact rfull (by first | (simp [splice]; done) | (simp [splice]; omega)) | exact vplace (by simp; done) (by omega) | exact vrow (by simp; done) (by omega) | exact vtiles (by simp) | exact vsplice (by simp) (by simp) | refine ceq ?_ ?_ | refine Eq.trans (vsplice (by first | (simp; done) | (simp; omega)) (by first | (simp; done) | (simp; omega))) ?_)), ?_⟩
  conv => whnf
  repeat (first | (refine And.intro (by first  | exact rfl | decide | omega | (simp [splice]; done) | (constructor <;> omega) | (simp [splice]; omega)) ?_; conv => whnf) | (refine optK_of (intA (by omega)) ?_; conv => whnf) | (refine optK_of (intA' (by omega)) ?_; conv => whnf) | (refine optK_of (markIA (by omega)) ?_; conv => whnf) | (refine optK_of (gridN (by omega) (by omega)) ?_; conv => whnf) | (refine optK_of (placeA (by omega)) ?_; conv => whnf) | (refine optK_of (placeB (by omega)) ?_; conv => whnf) | (refine optK_of (placeA' (by omega)) ?_; conv => whnf) | (refine optK_of (placeB' (by omega)) ?_; conv => whnf))
  first | refine ⟨rfl, _, rfl, ?_⟩ | refine ⟨_, rfl, ?_⟩
  skip
  rw [show IntKind.i64.wrap (0 - a q.1 q.2) = negA a q by unfold negA; rw [w64 (by omega) (by omega)]; omega]; rfl
theorem replaced1_sat (c k : Nat) : Sat Try.prog 73 [placeD c k] (.v (.bool true)) := by
  refine sat_of_wp hMix tOk Try.func73 rfl rfl Try.ntmps73 rfl rfl Try.results73 (by kernel_rfl) ?_
  conv => whnf
  repeat (first | (refine And.intro (by first  | exact rfl | decide | omega | (simp [splice]; done) | (constructor <;> omega) | (simp [splice]; omega)) ?_; conv => whnf) | (refine optK_of (intA (by omega)) ?_; conv => whnf) | (refine optK_of (intA' (by omega)) ?_; conv => whnf) | (refine optK_of (markIA (by omega)) ?_; conv => whnf) | (refine optK_of (gridN (by omega) (by omega)) ?_; conv => whnf) | (refine optK_of (placeA (by omega)) ?_; conv => whnf) | (refine optK_of (placeB (by omega)) ?_; conv => whnf) | (refine optK_of (placeA' (by omega)) ?_; conv => whnf) | (refine optK_of (placeB' (by omega)) ?_; conv => whnf))
  first | refine ⟨rfl, _, rfl, ?_⟩ | refine ⟨_, rfl, ?_⟩
  rfl
theorem replacedAt_sat (r : Roof) (hr : r.In) (a : Nat → Nat → Int) (ha : AgesIn a) (life years : Int) : Sat Try.prog 20 [roofD r, gridD a, .v (.int .i64 life), .v (.int .i64 years)] (.tup [intsD true (repX r a life years), .v (.int .i64 (visK r a life years))]) := by
  refine satN_of_wp hMix tOk Try.func20 rfl rfl Try.ntmps20 rfl rfl Try.results20 (by kernel_rfl) ?_
  conv => whnf
  repeat (first | (refine And.intro (by first  | exact rfl | decide | omega | (simp [splice]; done) | (constructor <;> omega) | (simp [splice]; omega)) ?_; conv => whnf) | (refine optK_of (intA (by omega)) ?_; conv => whnf) | (refine optK_of (intA' (by omega)) ?_; conv => whnf) | (refine optK_of (markIA (by omega)) ?_; conv => whnf) | (refine optK_of (gridN (by omega) (by omega)) ?_; conv => whnf) | (refine optK_of (placeA (by omega)) ?_; conv => whnf) | (refine optK_of (placeB (by omega)) ?_; conv => whnf) | (refine optK_of (placeA' (by omega)) ?_; conv => whnf) | (refine optK_of (placeB' (by omega)) ?_; conv => whnf))
  first | refine ⟨_, _, rfl, Sat.of_eq (visitsCode_sat r hr a ha life years) (by repeat (first | rfl | exact vfull (by first | (simp [splice]; done) | (simp [splice]; omega)) | exact rfull (by first | (simp [splice]; done) | (simp [splice]; omega)) | exact vplace (by simp; done) (by omega) | exact vrow (by simp; done) (by omega) | exact vtiles (by simp) | exact vsplice (by simp) (by simp) | refine ceq ?_ ?_ | refine Eq.trans (vsplice (by first | (simp; done) | (simp; omega)) (by first | (simp; done) | (simp; omega))) ?_)), ?_⟩ | refine .inl ⟨_, _, rfl, Sat.of_eq (visitsCode_sat r hr a ha life years) (by repeat (first | rfl | exact vfull (by first | (simp [splice]; done) | (simp [splice]; omega)) | exact rfull (by first | (simp [splice]; done) | (simp [splice]; omega)) | exact vplace (by simp; done) (by omega) | exact vrow (by simp; done) (by omega) | exact vtiles (by simp) | exact vsplice (by simp) (by simp) | refine ceq ?_ ?_ | refine Eq.trans (vsplice (by first | (simp; done) | (simp; omega)) (by first | (simp; done) | (simp; omega))) ?_)), ?_⟩
  conv => whnf
  repeat (first | (refine And.intro (by first  | exact rfl | decide | omega | (simp [splice]; done) | (constructor <;> omega) | (simp [splice]; omega)) ?_; conv => whnf) | (refine optK_of (intA (by omega)) ?_; conv => whnf) | (refine optK_of (intA' (by omega)) ?_; conv => whnf) | (refine optK_of (markIA (by omega)) ?_; conv => whnf) | (refine optK_of (gridN (by omega) (by omega)) ?_; conv => whnf) | (refine optK_of (placeA (by omega)) ?_; conv => whnf) | (refine optK_of (placeB (by omega)) ?_; conv => whnf) | (refine optK_of (placeA' (by omega)) ?_; conv => whnf) | (refine optK_of (placeB' (by omega)) ?_; conv => whnf))
  refine bsplitT (fun h1 => ?_) (fun h1 => ?_)
  all_goals (conv => whnf)
  all_goals (repeat (first | (refine And.intro (by first  | exact rfl | decide | omega | (simp [splice]; done) | (constructor <;> omega) | (simp [splice]; omega)) ?_; conv => whnf) | (refine optK_of (intA (by omega)) ?_; conv => whnf) | (refine optK_of (intA' (by omega)) ?_; conv => whnf) | (refine optK_of (markIA (by omega)) ?_; conv => whnf) | (refine optK_of (gridN (by omega) (by omega)) ?_; conv => whnf) | (refine optK_of (placeA (by omega)) ?_; conv => whnf) | (refine optK_of (placeB (by omega)) ?_; conv => whnf) | (refine optK_of (placeA' (by omega)) ?_; conv => whnf) | (refine optK_of (placeB' (by omega)) ?_; conv => whnf)))
  · have h1' : ¬ visK r a life years = 0 := by simpa using h1
    rw [show repX r a life years = [] by unfold repX; rw [if_neg h1']]
    unfold intsD; rw [intsC_nil]
    first | refine ⟨rfl, _, rfl, [_, _], rfl, ?_, rfl⟩ | refine ⟨_, rfl, [_, _], rfl, ?_, rfl⟩
    ((repeat' (first | exact trivial | apply And.intro)) <;> first | exact .inl rfl | exact .inr ⟨rfl, rfl⟩)
  have hk : visK r a life years = 0 := by simpa using h1
  have hz : brkK r a life years = 0 := by
    unfold visK at hk
    split at hk
    · assumption
    · rename_i h; exact (h hk).elim
  obtain ⟨hb, hold, hl, hy⟩ := brk_facts ha hz
  have hp := oldP_in hb a
  first | refine ⟨_, _, rfl, Sat.of_eq (oldest_sat r hr hb a ha) (by repeat (first | rfl | exact vfull (by first | (simp [splice]; done) | (simp [splice]; omega)) | exact rfull (by first | (simp [splice]; done) | (simp [splice]; omega)) | exact vplace (by simp; done) (by omega) | exact vrow (by simp; done) (by omega) | exact vtiles (by simp) | exact vsplice (by simp) (by simp) | refine ceq ?_ ?_ | refine Eq.trans (vsplice (by first | (simp; done) | (simp; omega)) (by first | (simp; done) | (simp; omega))) ?_)), ?_⟩ | refine .inl ⟨_, _, rfl, Sat.of_eq (oldest_sat r hr hb a ha) (by repeat (first | rfl | exact vfull (by first | (simp [splice]; done) | (simp [splice]; omega)) | exact rfull (by first | (simp [splice]; done) | (simp [splice]; omega)) | exact vplace (by simp; done) (by omega) | exact vrow (by simp; done) (by omega) | exact vtiles (by simp) | exact vsplice (by simp) (by simp) | refine ceq ?_ ?_ | refine Eq.trans (vsplice (by first | (simp; done) | (simp; omega)) (by first | (simp; done) | (simp; omega))) ?_)), ?_⟩
  conv => whnf
  repeat (first | (refine And.intro (by first  | exact rfl | decide | omega | (simp [splice]; done) | (constructor <;> omega) | (simp [splice]; omega)) ?_; conv => whnf) | (refine optK_of (intA (by omega)) ?_; conv => whnf) | (refine optK_of (intA' (by omega)) ?_; conv => whnf) | (refine optK_of (markIA (by omega)) ?_; conv => whnf) | (refine optK_of (gridN (by omega) (by omega)) ?_; conv => whnf) | (refine optK_of (placeA (by omega)) ?_; conv => whnf) | (refine optK_of (placeB (by omega)) ?_; conv => whnf) | (refine optK_of (placeA' (by omega)) ?_; conv => whnf) | (refine optK_of (placeB' (by omega)) ?_; conv => whnf))
  first | refine ⟨_, _, rfl, Sat.of_eq (at_sat a ha _ _ hp.1 hp.2) (by repeat (first | rfl | exact vfull (by first | (simp [splice]; done) | (simp [splice]; omega)) | exact rfull (by first | (simp [splice]; done) | (simp [splice]; omega)) | exact vplace (by simp; done) (by omega) | exact vrow (by simp; done) (by omega) | exact vtiles (by simp) | exact vsplice (by simp) (by simp) | refine ceq ?_ ?_ | refine Eq.trans (vsplice (by first | (simp; done) | (simp; omega)) (by first | (simp; done) | (simp; omega))) ?_)), ?_⟩ | refine .inl ⟨_, _, rfl, Sat.of_eq (at_sat a ha _ _ hp.1 hp.2) (by repeat (first | rfl | exact vfull (by first | (simp [splice]; done) | (simp [splice]; omega)) | exact rfull (by first | (simp [splice]; done) | (simp [splice]; omega)) | exact vplace (by simp; done) (by omega) | exact vrow (by simp; done) (by omega) | exact vtiles (by simp) | exact vsplice (by simp) (by simp) | refine ceq ?_ ?_ | refine Eq.trans (vsplice (by first | (simp; done) | (simp; omega)) (by first | (simp; done) | (simp; omega))) ?_)), ?_⟩
  conv => whnf
  repeat (first | (refine And.intro (by first  | exact rfl | decide | omega | (simp [splice]; done) | (constructor <;> omega) | (simp [splice]; omega)) ?_; conv => whnf) | (refine optK_of (intA (by omega)) ?_; conv => whnf) | (refine optK_of (intA' (by omega)) ?_; conv => whnf) | (refine optK_of (markIA (by omega)) ?_; conv => whnf) | (refine optK_of (gridN (by omega) (by omega)) ?_; conv => whnf) | (refine optK_of (placeA (by omega)) ?_; conv => whnf) | (refine optK_of (placeB (by omega)) ?_; conv => whnf) | (refine optK_of (placeA' (by omega)) ?_; conv => whnf) | (refine optK_of (placeB' (by omega)) ?_; conv => whnf))
  first | refine ⟨_, _, rfl, Sat.of_eq (visits_sat _ _ _ hold hl hy) (by repeat (first | rfl | exact vfull (by first | (simp [splice]; done) | (simp [splice]; omega)) | exact rfull (by first | (simp [splice]; done) | (simp [splice]; omega)) | exact vplace (by simp; done) (by omega) | exact vrow (by simp; done) (by omega) | exact vtiles (by simp) | exact vsplice (by simp) (by simp) | refine ceq ?_ ?_ | refine Eq.trans (vsplice (by first | (simp; done) | (simp; omega)) (by first | (simp; done) | (simp; omega))) ?_)), ?_⟩ | refine .inl ⟨_, _, rfl, Sat.of_eq (visits_sat _ _ _ hold hl hy) (by repeat (first | rfl | exact vfull (by first | (simp [splice]; done) | (simp [splice]; omega)) | exact rfull (by first | (simp [splice]; done) | (simp [splice]; omega)) | exact vplace (by simp; done) (by omega) | exact vrow (by simp; done) (by omega) | exact vtiles (by simp) | exact vsplice (by simp) (by simp) | refine ceq ?_ ?_ | refine Eq.trans (vsplice (by first | (simp; done) | (simp; omega)) (by first | (simp; done) | (simp; omega))) ?_)), ?_⟩
  conv => whnf
  repeat (first | (refine And.intro (by first  | exact rfl | decide | omega | (simp [splice]; done) | (constructor <;> omega) | (simp [splice]; omega)) ?_; conv => whnf) | (refine optK_of (intA (by omega)) ?_; conv => whnf) | (refine optK_of (intA' (by omega)) ?_; conv => whnf) | (refine optK_of (markIA (by omega)) ?_; conv => whnf) | (refine optK_of (gridN (by omega) (by omega)) ?_; conv => whnf) | (refine optK_of (placeA (by omega)) ?_; conv => whnf) | (refine optK_of (placeB (by omega)) ?_; conv => whnf) | (refine optK_of (placeA' (by omega)) ?_; conv => whnf) | (refine optK_of (placeB' (by omega)) ?_; conv => whnf))
  rw [hk, show repX r a life years = outI life years (visL life years 400 (life - ageP a (oldP r a))) ((gridP r.w.toNat r.h.toNat).map (negA a)) (visL life years 400 (life - ageP a (oldP r a))).length by unfold repX; rw [if_pos hk]]
  change 0 ≤ ageP a (oldP r a) ∧ ageP a (oldP r a) ≤ 100 at hold
  have hps := gridP_in (w := r.w.toNat) (h := r.h.toNat) (by omega) (by omega)
  have hsz := gridP_size hb
  have hgp : Sat Try.prog 72 [roofD r, .fn (.func 73) [] []] (placesD true (gridP r.w.toNat r.h.toNat)) := by
    rw [← allP_true]; exact places_sat r hr hb fun c k _ _ => replaced1_sat c k
  first | refine ⟨_, _, rfl, Sat.of_eq (hgp) (by repeat (first | rfl | exact vfull (by first | (simp [splice]; done) | (simp [splice]; omega)) | exact rfull (by first | (simp [splice]; done) | (simp [splice]; omega)) | exact vplace (by simp; done) (by omega) | exact vrow (by simp; done) (by omega) | exact vtiles (by simp) | exact vsplice (by simp) (by simp) | refine ceq ?_ ?_ | refine Eq.trans (vsplice (by first | (simp; done) | (simp; omega)) (by first | (simp; done) | (simp; omega))) ?_)), ?_⟩ | refine .inl ⟨_, _, rfl, Sat.of_eq (hgp) (by repeat (first | rfl | exact vfull (by first | (simp [splice]; done) | (simp [splice]; omega)) | exact rfull (by first | (simp [splice]; done) | (simp [splice]; omega)) | exact vplace (by simp; done) (by omega) | exact vrow (by simp; done) (by omega) | exact vtiles (by simp) | exact vsplice (by simp) (by simp) | refine ceq ?_ ?_ | refine Eq.trans (vsplice (by first | (simp; done) | (simp; omega)) (by first | (simp; done) | (simp; omega))) ?_)), ?_⟩
  conv => whnf
  repeat (first | (refine And.intro (by first  | exact rfl | decide | omega | (simp [splice]; done) | (constructor <;> omega) | (simp [splice]; omega)) ?_; conv => whnf) | (refine optK_of (intA (by omega)) ?_; conv => whnf) | (refine optK_of (intA' (by omega)) ?_; conv => whnf) | (refine optK_of (markIA (by omega)) ?_; conv => whnf) | (refine optK_of (gridN (by omega) (by omega)) ?_; conv => whnf) | (refine optK_of (placeA (by omega)) ?_; conv => whnf) | (refine optK_of (placeB (by omega)) ?_; conv => whnf) | (refine optK_of (placeA' (by omega)) ?_; conv => whnf) | (refine optK_of (placeB' (by omega)) ?_; conv => whnf))
  first | refine ⟨_, _, rfl, Sat.of_eq (eachPI_sat (caps := [.ref false (gridD a) 0]) (gridP r.w.toNat r.h.toNat) (by omega) false ⟨fun _ => rfl, fun _ => rfl⟩ (fun i hi => replaced2_sat a ha _ (hps i hi))) (by repeat (first | rfl | exact vfull (by first | (simp [splice]; done) | (simp [splice]; omega)) | exact rfull (by first | (simp [splice]; done) | (simp [splice]; omega)) | exact vplace (by simp; done) (by omega) | exact vrow (by simp; done) (by omega) | exact vtiles (by simp) | exact vsplice (by simp) (by simp) | refine ceq ?_ ?_ | refine Eq.trans (vsplice (by first | (simp; done) | (simp; omega)) (by first | (simp; done) | (simp; omega))) ?_)), ?_⟩ | refine .inl ⟨_, _, rfl, Sat.of_eq (eachPI_sat (caps := [.ref false (gridD a) 0]) (gridP r.w.toNat r.h.toNat) (by omega) false ⟨fun _ => rfl, fun _ => rfl⟩ (fun i hi => replaced2_sat a ha _ (hps i hi))) (by repeat (first | rfl | exact vfull (by first | (simp [splice]; done) | (simp [splice]; omega)) | exact rfull (by first | (simp [splice]; done) | (simp [splice]; omega)) | exact vplace (by simp; done) (by omega) | exact vrow (by simp; done) (by omega) | exact vtiles (by simp) | exact vsplice (by simp) (by simp) | refine ceq ?_ ?_ | refine Eq.trans (vsplice (by first | (simp; done) | (simp; omega)) (by first | (simp; done) | (simp; omega))) ?_)), ?_⟩
  conv => whnf
  repeat (first | (refine And.intro (by first  | exact rfl | decide | omega | (simp [splice]; done) | (constructor <;> omega) | (simp [splice]; omega)) ?_; conv => whnf) | (refine optK_of (intA (by omega)) ?_; conv => whnf) | (refine optK_of (intA' (by omega)) ?_; conv => whnf) | (refine optK_of (markIA (by omega)) ?_; conv => whnf) | (refine optK_of (gridN (by omega) (by omega)) ?_; conv => whnf) | (refine optK_of (placeA (by omega)) ?_; conv => whnf) | (refine optK_of (placeB (by omega)) ?_; conv => whnf) | (refine optK_of (placeA' (by omega)) ?_; conv => whnf) | (refine optK_of (placeB' (by omega)) ?_; conv => whnf))
  have hvl := visL_len life years 400 (life - ageP a (oldP r a))
  have hvm := fun x => visL_mem (years := years) hl.1 400 (life - ageP a (oldP r a)) x
  have hold2 : 0 ≤ ageP a (oldP r a) ∧ ageP a (oldP r a) ≤ 100 := hold
  generalize hvs : visL life years 400 (life - ageP a (oldP r a)) = vs at *
  have hbm : ∀ k, k < ((gridP r.w.toNat r.h.toNat).map (negA a)).length → In3 (ix ((gridP r.w.toNat r.h.toNat).map (negA a)) k) := by
    intro k hk
    obtain ⟨q, hq, e⟩ := List.mem_map.1 (ix_mem hk)
    obtain ⟨i, hi⟩ := List.getElem?_of_mem hq
    have hil : i < (gridP r.w.toNat r.h.toNat).length := (List.getElem?_eq_some_iff.1 hi).1
    rw [nthP_some hil] at hi
    simp only [Option.some.injEq] at hi
    have hq8 := hps i hil
    rw [hi] at hq8
    have h1 := okA_ages (askC_ok hz).1 hq8.1 hq8.2
    have h2 := ha.t q.1 q.2
    rw [← e]
    unfold In3 negA
    omega
  have hb0 : ((gridP r.w.toNat r.h.toNat).map (negA a)).length ≤ 72 := by rw [List.length_map]; exact hsz.2
  generalize (gridP r.w.toNat r.h.toNat).map (negA a) = b0 at *
  have hvi : ∀ i, i < vs.length → In3 (ix vs i) := fun i hi => by
    have := hvm _ (ix_mem hi)
    unfold In3
    omega
  clear hvm
  refine loop_rule (α := Nat) (fun i => [(2, .v (.int .i64 life)), (3, .v (.int .i64 years)), (11, .slc true 1 (34, 0, 0) 0 vs.length), (12, .slc true 1 (38, 0, 0) 0 b0.length), (13, .slc true 1 (80, 0, 0) 0 (outI life years vs b0 i).length), (39, .slc true 1 (34, 0, 0) 0 vs.length), (40, .v (.int .i64 vs.length)), (41, .v (.int .i64 i))]) (fun i => [((34, 0, 0), .v (.agg ⟨intsC vs⟩)), ((38, 0, 0), .v (.agg ⟨intsC (bornI life years vs b0 i)⟩)), ((80, 0, 0), .v (.agg ⟨intsC (outI life years vs b0 i)⟩))]) (fun i => i ≤ vs.length) (fun i => vs.length - i) (0) ?_ (sim_of (rn := [((34, 0, 0), (34, 0, 0)), ((38, 0, 0), (38, 0, 0)), ((80, 0, 0), nilId)]) rfl ?_ ?_) ?_
  · first | omega | (dsimp only; omega) | ((repeat' apply And.intro) <;> omega) | (dsimp only; (repeat' apply And.intro) <;> omega) | trivial
  · ((repeat' (first | exact trivial | apply And.intro)) <;> (first | rfl | exact succ8 (by omega) | exact succ64 (by omega) | exact CapOk.fn (by assumption) _ _ | exact vintS (by omega) | exact vintS (by rw [w64 (by omega) (by omega)]; omega) | exact vintS (by rw [w8 (by omega) (by omega)]; omega) | exact vslcS (by omega) | exact vslcS (by simp)))
  · ((repeat' (first | exact trivial | apply And.intro)) <;> (refine ⟨_, _, rfl, rfl, ?_⟩; first | rfl | ((unfold outI; rw [intsC_nil]; rfl))))
  intro i hi
  have hol := outI_len life years vs b0 i
  conv => whnf
  repeat (first | (refine And.intro (by first  | exact rfl | decide | omega | (simp [splice]; done) | (constructor <;> omega) | (simp [splice]; omega)) ?_; conv => whnf) | (refine optK_of (intA (by omega)) ?_; conv => whnf) | (refine optK_of (intA' (by omega)) ?_; conv => whnf) | (refine optK_of (markIA (by omega)) ?_; conv => whnf) | (refine optK_of (gridN (by omega) (by omega)) ?_; conv => whnf) | (refine optK_of (placeA (by omega)) ?_; conv => whnf) | (refine optK_of (placeB (by omega)) ?_; conv => whnf) | (refine optK_of (placeA' (by omega)) ?_; conv => whnf) | (refine optK_of (placeB' (by omega)) ?_; conv => whnf))
  cases h : decide ((i : Int) < (vs.length : Int))
  · have hin : i = vs.length := by simp at h; omega
    subst hin
    conv => whnf
    repeat (first | (refine And.intro (by first  | exact rfl | decide | omega | (simp [splice]; done) | (constructor <;> omega) | (simp [splice]; omega)) ?_; conv => whnf) | (refine optK_of (intA (by omega)) ?_; conv => whnf) | (refine optK_of (intA' (by omega)) ?_; conv => whnf) | (refine optK_of (markIA (by omega)) ?_; conv => whnf) | (refine optK_of (gridN (by omega) (by omega)) ?_; conv => whnf) | (refine optK_of (placeA (by omega)) ?_; conv => whnf) | (refine optK_of (placeB (by omega)) ?_; conv => whnf) | (refine optK_of (placeA' (by omega)) ?_; conv => whnf) | (refine optK_of (placeB' (by omega)) ?_; conv => whnf))
    first | refine ⟨rfl, _, rfl, [_, _], rfl, ?_, rfl⟩ | refine ⟨_, rfl, [_, _], rfl, ?_, rfl⟩
    ((repeat' (first | exact trivial | apply And.intro)) <;> first | exact .inl rfl | exact .inr ⟨rfl, rfl⟩)
  have hin : i < vs.length := by simpa using h
  have ei : IntKind.i64.wrap ((i : Int) + 1) = ((i + 1 : Nat) : Int) := by rw [w64 (by omega) (by omega)]; omega
  conv => whnf
  repeat (first | (refine And.intro (by first  | exact rfl | decide | omega | (simp [splice]; done) | (constructor <;> omega) | (simp [splice]; omega)) ?_; conv => whnf) | (refine optK_of (intA (by omega)) ?_; conv => whnf) | (refine optK_of (intA' (by omega)) ?_; conv => whnf) | (refine optK_of (markIA (by omega)) ?_; conv => whnf) | (refine optK_of (gridN (by omega) (by omega)) ?_; conv => whnf) | (refine optK_of (placeA (by omega)) ?_; conv => whnf) | (refine optK_of (placeB (by omega)) ?_; conv => whnf) | (refine optK_of (placeA' (by omega)) ?_; conv => whnf) | (refine optK_of (placeB' (by omega)) ?_; conv => whnf))
  rw [ei]
  cases h9 : decide (((i + 1 : Nat) : Int) < (vs.length : Int))
  all_goals
    (try have h9' : i + 1 < vs.length := by simp only [decide_eq_true_eq] at h9; omega)
    conv => whnf
    repeat (first | (refine And.intro (by first  | exact rfl | decide | omega | (simp [splice]; done) | (constructor <;> omega) | (simp [splice]; omega)) ?_; conv => whnf) | (refine optK_of (intA (by omega)) ?_; conv => whnf) | (refine optK_of (intA' (by omega)) ?_; conv => whnf) | (refine optK_of (markIA (by omega)) ?_; conv => whnf) | (refine optK_of (gridN (by omega) (by omega)) ?_; conv => whnf) | (refine optK_of (placeA (by omega)) ?_; conv => whnf) | (refine optK_of (placeB (by omega)) ?_; conv => whnf) | (refine optK_of (placeA' (by omega)) ?_; conv => whnf) | (refine optK_of (placeB' (by omega)) ?_; conv => whnf))
    (try rw [ei])
    repeat (first | (refine And.intro (by first  | exact rfl | decide | omega | (simp [splice]; done) | (constructor <;> omega) | (simp [splice]; omega)) ?_; conv => whnf) | (refine optK_of (intA (by omega)) ?_; conv => whnf) | (refine optK_of (intA' (by omega)) ?_; conv => whnf) | (refine optK_of (markIA (by omega)) ?_; conv => whnf) | (refine optK_of (gridN (by omega) (by omega)) ?_; conv => whnf) | (refine optK_of (placeA (by omega)) ?_; conv => whnf) | (refine optK_of (placeB (by omega)) ?_; conv => whnf) | (refine optK_of (placeA' (by omega)) ?_; conv => whnf) | (refine optK_of (placeB' (by omega)) ?_; conv => whnf))
    have hbl := bornI_len life years vs b0 i
    have hbi := bornI_in (life := life) (years := years) hvi hbm i hi
    have hnx := nxAt_in (years := years) hvi hy i
    refine loop_rule (α := Nat) (fun k => [(2, .v (.int .i64 life)), (3, .v (.int .i64 years)), (11, .slc true 1 (34, 0, 0) 0 vs.length), (12, .slc true 1 (38, 0, 0) 0 b0.length), (13, .slc true 1 (80, 0, 0) 0 (outI life years vs b0 i).length), (15, .v (.int .i64 (ix vs i))), (16, .v (.int .i64 (nxAt years vs i))), (17, .v (.int .i64 (cntS life (nxAt years vs i) (bornI life years vs b0 i) k : Nat))), (39, .slc true 1 (34, 0, 0) 0 vs.length), (40, .v (.int .i64 vs.length)), (41, .v (.int .i64 i)), (58, .v (.int .i64 b0.length)), (59, .v (.int .i64 k))]) (fun k => [((34, 0, 0), .v (.agg ⟨intsC vs⟩)), ((38, 0, 0), .v (.agg ⟨intsC (bornS life (nxAt years vs i) (ix vs i) (bornI life years vs b0 i) k)⟩)), ((80, 0, 0), .v (.agg ⟨intsC (outI life years vs b0 i)⟩))]) (fun k => k ≤ b0.length) (fun k => b0.length - k) (0) ?_ (sim_of (rn := [((34, 0, 0), (34, 0, 0)), ((38, 0, 0), (38, 0, 0)), ((80, 0, 0), (80, 0, 0))]) rfl ?_ ?_) ?_
    · first | omega | (dsimp only; omega) | ((repeat' apply And.intro) <;> omega) | (dsimp only; (repeat' apply And.intro) <;> omega) | trivial
    · ((repeat' (first | exact trivial | apply And.intro)) <;> (first | rfl | (first | exact vintS (nx_t h9) | exact vintS (nx_f h9)) | exact succ8 (by omega) | exact succ64 (by omega) | exact CapOk.fn (by assumption) _ _ | exact vintS (by omega) | exact vintS (by rw [w64 (by omega) (by omega)]; omega) | exact vintS (by rw [w8 (by omega) (by omega)]; omega) | exact vslcS (by omega) | exact vslcS (by simp)))
    · ((repeat' (first | exact trivial | apply And.intro)) <;> (refine ⟨_, _, rfl, rfl, ?_⟩; first | rfl | (rw [bornS_zero]; rfl)))
    intro k hk
    have hsl := bornS_len life (nxAt years vs i) (ix vs i) (bornI life years vs b0 i) k
    have hcl := cntS_le (life := life) (nx := nxAt years vs i) (born := bornI life years vs b0 i) (k := k)
    clear h9
    conv => whnf
    repeat (first | (refine And.intro (by first  | exact rfl | decide | omega | (simp [splice]; done) | (constructor <;> omega) | (simp [splice]; omega)) ?_; conv => whnf) | (refine optK_of (intA (by omega)) ?_; conv => whnf) | (refine optK_of (intA' (by omega)) ?_; conv => whnf) | (refine optK_of (markIA (by omega)) ?_; conv => whnf) | (refine optK_of (gridN (by omega) (by omega)) ?_; conv => whnf) | (refine optK_of (placeA (by omega)) ?_; conv => whnf) | (refine optK_of (placeB (by omega)) ?_; conv => whnf) | (refine optK_of (placeA' (by omega)) ?_; conv => whnf) | (refine optK_of (placeB' (by omega)) ?_; conv => whnf))
    cases h10 : decide ((k : Int) < (b0.length : Int))
    · have hkb : k = b0.length := by simp at h10; omega
      subst hkb
      conv => whnf
      repeat (first | (refine And.intro (by first  | exact rfl | decide | omega | (simp [splice]; done) | (constructor <;> omega) | (simp [splice]; omega)) ?_; conv => whnf) | (refine optK_of (intA (by omega)) ?_; conv => whnf) | (refine optK_of (intA' (by omega)) ?_; conv => whnf) | (refine optK_of (markIA (by omega)) ?_; conv => whnf) | (refine optK_of (gridN (by omega) (by omega)) ?_; conv => whnf) | (refine optK_of (placeA (by omega)) ?_; conv => whnf) | (refine optK_of (placeB (by omega)) ?_; conv => whnf) | (refine optK_of (placeA' (by omega)) ?_; conv => whnf) | (refine optK_of (placeB' (by omega)) ?_; conv => whnf))
      have e2 : intsC (outI life years vs b0 i) ++ [.int .i64 (cntS life (nxAt years vs i) (bornI life years vs b0 i) b0.length : Nat)] = intsC (outI life years vs b0 (i + 1)) := by rw [← intsC_one, ← intsC_append]; rfl
      refine ⟨i + 1, ?_, ?_, sim_of (rn := [((34, 0, 0), (34, 0, 0)), ((38, 0, 0), (38, 0, 0)), ((80, 0, 0), (80, 1, 0))]) rfl ?_ ?_⟩
      · (dsimp only; omega)
      · first | omega | (dsimp only; omega) | ((repeat' apply And.intro) <;> omega) | (dsimp only; (repeat' apply And.intro) <;> omega) | trivial
      · ((repeat' (first | exact trivial | apply And.intro)) <;> (first | rfl | exact succ8 (by omega) | exact succ64 (by omega) | exact CapOk.fn (by assumption) _ _ | exact vintS (by omega) | exact vintS (by rw [w64 (by omega) (by omega)]; omega) | exact vintS (by rw [w8 (by omega) (by omega)]; omega) | exact vslcS (by omega) | exact vslcS (by simp)))
      · ((repeat' (first | exact trivial | apply And.intro)) <;> (refine ⟨_, _, rfl, rfl, ?_⟩; first | rfl | (exact cset e2)))
    have hkb : k < b0.length := by simpa using h10
    have hbk := hbi k hkb
    unfold In3 at hbk hnx
    conv => whnf
    repeat (first | (refine And.intro (by first  | exact rfl | decide | omega | (simp [splice]; done) | (constructor <;> omega) | (simp [splice]; omega)) ?_; conv => whnf) | (refine optK_of (intA (by omega)) ?_; conv => whnf) | (refine optK_of (intA' (by omega)) ?_; conv => whnf) | (refine optK_of (markIA (by omega)) ?_; conv => whnf) | (refine optK_of (gridN (by omega) (by omega)) ?_; conv => whnf) | (refine optK_of (placeA (by omega)) ?_; conv => whnf) | (refine optK_of (placeB (by omega)) ?_; conv => whnf) | (refine optK_of (placeA' (by omega)) ?_; conv => whnf) | (refine optK_of (placeB' (by omega)) ?_; conv => whnf))
    rw [bornS_at (by omega)]
    rw [show IntKind.i64.wrap (nxAt years vs i - ix (bornI life years vs b0 i) k) = nxAt years vs i - ix (bornI life years vs b0 i) k from w64 (by omega) (by omega)]
    cases h11 : decide (nxAt years vs i - ix (bornI life years vs b0 i) k > life)
    · have h11' : ¬ nxAt years vs i - ix (bornI life years vs b0 i) k > life := by simpa using h11
      have ec : cntS life (nxAt years vs i) (bornI life years vs b0 i) (k + 1) = cntS life (nxAt years vs i) (bornI life years vs b0 i) k := by rw [cntS_next (by omega), if_neg h11']; rfl
      rw [← bornS_no (by omega) h11', ← ec]
      conv => whnf
      repeat (first | (refine And.intro (by first  | exact rfl | decide | omega | (simp [splice]; done) | (constructor <;> omega) | (simp [splice]; omega)) ?_; conv => whnf) | (refine optK_of (intA (by omega)) ?_; conv => whnf) | (refine optK_of (intA' (by omega)) ?_; conv => whnf) | (refine optK_of (markIA (by omega)) ?_; conv => whnf) | (refine optK_of (gridN (by omega) (by omega)) ?_; conv => whnf) | (refine optK_of (placeA (by omega)) ?_; conv => whnf) | (refine optK_of (placeB (by omega)) ?_; conv => whnf) | (refine optK_of (placeA' (by omega)) ?_; conv => whnf) | (refine optK_of (placeB' (by omega)) ?_; conv => whnf))
      refine ⟨k + 1, ?_, ?_, sim_of (rn := [((34, 0, 0), (34, 0, 0)), ((38, 0, 0), (38, 0, 0)), ((80, 0, 0), (80, 0, 0))]) rfl ?_ ?_⟩
      · (dsimp only; omega)
      · first | omega | (dsimp only; omega) | ((repeat' apply And.intro) <;> omega) | (dsimp only; (repeat' apply And.intro) <;> omega) | trivial
      · ((repeat' (first | exact trivial | apply And.intro)) <;> (first | rfl | exact succ8 (by omega) | exact succ64 (by omega) | exact CapOk.fn (by assumption) _ _ | exact vintS (by omega) | exact vintS (by rw [w64 (by omega) (by omega)]; omega) | exact vintS (by rw [w8 (by omega) (by omega)]; omega) | exact vslcS (by omega) | exact vslcS (by simp)))
      · ((repeat' (first | exact trivial | apply And.intro)) <;> (refine ⟨_, _, rfl, rfl, ?_⟩; first | rfl | (rfl)))
    have h11' : nxAt years vs i - ix (bornI life years vs b0 i) k > life := by simpa using h11
    have ec : cntS life (nxAt years vs i) (bornI life years vs b0 i) (k + 1) = cntS life (nxAt years vs i) (bornI life years vs b0 i) k + 1 := by rw [cntS_next (by omega), if_pos h11']
    conv => whnf
    repeat (first | (refine And.intro (by first  | exact rfl | decide | omega | (simp [splice]; done) | (constructor <;> omega) | (simp [splice]; omega)) ?_; conv => whnf) | (refine optK_of (intA (by omega)) ?_; conv => whnf) | (refine optK_of (intA' (by omega)) ?_; conv => whnf) | (refine optK_of (markIA (by omega)) ?_; conv => whnf) | (refine optK_of (gridN (by omega) (by omega)) ?_; conv => whnf) | (refine optK_of (placeA (by omega)) ?_; conv => whnf) | (refine optK_of (placeB (by omega)) ?_; conv => whnf) | (refine optK_of (placeA' (by omega)) ?_; conv => whnf) | (refine optK_of (placeB' (by omega)) ?_; conv => whnf))
    have setA : (intsC (bornS life (nxAt years vs i) (ix vs i) (bornI life years vs b0 i) k)).set (0 + (k : Int).toNat * 1) (.int .i64 (ix vs i)) = intsC (bornS life (nxAt years vs i) (ix vs i) (bornI life years vs b0 i) (k + 1)) := by
      rw [show 0 + (k : Int).toNat * 1 = k by omega, intsC_set, bornS_yes (by omega) h11']
    refine ⟨k + 1, ?_, ?_, sim_of (rn := [((34, 0, 0), (34, 0, 0)), ((38, 0, 0), (38, 0, 0)), ((80, 0, 0), (80, 0, 0))]) rfl ?_ ?_⟩
    · (dsimp only; omega)
    · first | omega | (dsimp only; omega) | ((repeat' apply And.intro) <;> omega) | (dsimp only; (repeat' apply And.intro) <;> omega) | trivial
    · ((repeat' (first | exact trivial | apply And.intro)) <;> (first | rfl | (exact vintS (by rw [ec, w64 (by omega) (by omega)]; omega)) | exact succ8 (by omega) | exact succ64 (by omega) | exact CapOk.fn (by assumption) _ _ | exact vintS (by omega) | exact vintS (by rw [w64 (by omega) (by omega)]; omega) | exact vintS (by rw [w8 (by omega) (by omega)]; omega) | exact vslcS (by omega) | exact vslcS (by simp)))
    · ((repeat' (first | exact trivial | apply And.intro)) <;> (refine ⟨_, _, rfl, rfl, ?_⟩; first | rfl | (exact cset setA)))
theorem specReplacedAt_sat (r : Roof) (hr : r.In) (a : Nat → Nat → Int) (ha : AgesIn a) (life years : Int) : Sat Try.prog 18 [roofD r, gridD a, .v (.int .i64 life), .v (.int .i64 years)] (.tup [intsD true (repX r a life years), .v (.int .i64 (visK r a life years))]) := by
  have hcode : ∀ b, (lifeOk life && yearsOk years) = b → brkK r a life years = askC r a b := fun b h => by unfold brkK; rw [h]
  have err : ¬ brkK r a life years = 0 → repX r a life years = [] ∧ visK r a life years = brkK r a life years := fun h => by
    have h2 : visK r a life years = brkK r a life years := by unfold visK; rw [if_neg h]
    exact ⟨by unfold repX; rw [h2, if_neg h], h2⟩
  refine sat_of_wp hMix tOk Try.func18 rfl rfl Try.ntmps18 rfl rfl Try.results18 (by kernel_rfl) ?_
  conv => whnf
  repeat (first | (refine And.intro (by first  | exact rfl | decide | omega | (simp [splice]; done) | (constructor <;> omega) | (simp [splice]; omega)) ?_; conv => whnf) | (refine optK_of (intA (by omega)) ?_; conv => whnf) | (refine optK_of (intA' (by omega)) ?_; conv => whnf) | (refine optK_of (markIA (by omega)) ?_; conv => whnf) | (refine optK_of (gridN (by omega) (by omega)) ?_; conv => whnf) | (refine optK_of (placeA (by omega)) ?_; conv => whnf) | (refine optK_of (placeB (by omega)) ?_; conv => whnf) | (refine optK_of (placeA' (by omega)) ?_; conv => whnf) | (refine optK_of (placeB' (by omega)) ?_; conv => whnf))
  first | refine ⟨_, _, rfl, Sat.of_eq (l07Life_sat life) (by repeat (first | rfl | exact vfull (by first | (simp [splice]; done) | (simp [splice]; omega)) | exact rfull (by first | (simp [splice]; done) | (simp [splice]; omega)) | exact vplace (by simp; done) (by omega) | exact vrow (by simp; done) (by omega) | exact vtiles (by simp) | exact vsplice (by simp) (by simp) | refine ceq ?_ ?_ | refine Eq.trans (vsplice (by first | (simp; done) | (simp; omega)) (by first | (simp; done) | (simp; omega))) ?_)), ?_⟩ | refine .inl ⟨_, _, rfl, Sat.of_eq (l07Life_sat life) (by repeat (first | rfl | exact vfull (by first | (simp [splice]; done) | (simp [splice]; omega)) | exact rfull (by first | (simp [splice]; done) | (simp [splice]; omega)) | exact vplace (by simp; done) (by omega) | exact vrow (by simp; done) (by omega) | exact vtiles (by simp) | exact vsplice (by simp) (by simp) | refine ceq ?_ ?_ | refine Eq.trans (vsplice (by first | (simp; done) | (simp; omega)) (by first | (simp; done) | (simp; omega))) ?_)), ?_⟩
  conv => whnf
  repeat (first | (refine And.intro (by first  | exact rfl | decide | omega | (simp [splice]; done) | (constructor <;> omega) | (simp [splice]; omega)) ?_; conv => whnf) | (refine optK_of (intA (by omega)) ?_; conv => whnf) | (refine optK_of (intA' (by omega)) ?_; conv => whnf) | (refine optK_of (markIA (by omega)) ?_; conv => whnf) | (refine optK_of (gridN (by omega) (by omega)) ?_; conv => whnf) | (refine optK_of (placeA (by omega)) ?_; conv => whnf) | (refine optK_of (placeB (by omega)) ?_; conv => whnf) | (refine optK_of (placeA' (by omega)) ?_; conv => whnf) | (refine optK_of (placeB' (by omega)) ?_; conv => whnf))
  cases hL : lifeOk life
  · conv => whnf
    repeat (first | (refine And.intro (by first  | exact rfl | decide | omega | (simp [splice]; done) | (constructor <;> omega) | (simp [splice]; omega)) ?_; conv => whnf) | (refine optK_of (intA (by omega)) ?_; conv => whnf) | (refine optK_of (intA' (by omega)) ?_; conv => whnf) | (refine optK_of (markIA (by omega)) ?_; conv => whnf) | (refine optK_of (gridN (by omega) (by omega)) ?_; conv => whnf) | (refine optK_of (placeA (by omega)) ?_; conv => whnf) | (refine optK_of (placeB (by omega)) ?_; conv => whnf) | (refine optK_of (placeA' (by omega)) ?_; conv => whnf) | (refine optK_of (placeB' (by omega)) ?_; conv => whnf))
    first | refine ⟨_, _, rfl, Sat.of_eq (l07Asked_sat r hr a ha _) (by repeat (first | rfl | exact vfull (by first | (simp [splice]; done) | (simp [splice]; omega)) | exact rfull (by first | (simp [splice]; done) | (simp [splice]; omega)) | exact vplace (by simp; done) (by omega) | exact vrow (by simp; done) (by omega) | exact vtiles (by simp) | exact vsplice (by simp) (by simp) | refine ceq ?_ ?_ | refine Eq.trans (vsplice (by first | (simp; done) | (simp; omega)) (by first | (simp; done) | (simp; omega))) ?_)), ?_⟩ | refine .inl ⟨_, _, rfl, Sat.of_eq (l07Asked_sat r hr a ha _) (by repeat (first | rfl | exact vfull (by first | (simp [splice]; done) | (simp [splice]; omega)) | exact rfull (by first | (simp [splice]; done) | (simp [splice]; omega)) | exact vplace (by simp; done) (by omega) | exact vrow (by simp; done) (by omega) | exact vtiles (by simp) | exact vsplice (by simp) (by simp) | refine ceq ?_ ?_ | refine Eq.trans (vsplice (by first | (simp; done) | (simp; omega)) (by first | (simp; done) | (simp; omega))) ?_)), ?_⟩
    conv => whnf
    repeat (first | (refine And.intro (by first  | exact rfl | decide | omega | (simp [splice]; done) | (constructor <;> omega) | (simp [splice]; omega)) ?_; conv => whnf) | (refine optK_of (intA (by omega)) ?_; conv => whnf) | (refine optK_of (intA' (by omega)) ?_; conv => whnf) | (refine optK_of (markIA (by omega)) ?_; conv => whnf) | (refine optK_of (gridN (by omega) (by omega)) ?_; conv => whnf) | (refine optK_of (placeA (by omega)) ?_; conv => whnf) | (refine optK_of (placeB (by omega)) ?_; conv => whnf) | (refine optK_of (placeA' (by omega)) ?_; conv => whnf) | (refine optK_of (placeB' (by omega)) ?_; conv => whnf))
    rw [← hcode false (by simp [hL])]
    refine bsplitT (fun h1 => ?_) (fun h1 => ?_)
    all_goals (conv => whnf)
    all_goals (repeat (first | (refine And.intro (by first  | exact rfl | decide | omega | (simp [splice]; done) | (constructor <;> omega) | (simp [splice]; omega)) ?_; conv => whnf) | (refine optK_of (intA (by omega)) ?_; conv => whnf) | (refine optK_of (intA' (by omega)) ?_; conv => whnf) | (refine optK_of (markIA (by omega)) ?_; conv => whnf) | (refine optK_of (gridN (by omega) (by omega)) ?_; conv => whnf) | (refine optK_of (placeA (by omega)) ?_; conv => whnf) | (refine optK_of (placeB (by omega)) ?_; conv => whnf) | (refine optK_of (placeA' (by omega)) ?_; conv => whnf) | (refine optK_of (placeB' (by omega)) ?_; conv => whnf)))
    · first | refine ⟨rfl, _, rfl, ?_⟩ | refine ⟨_, rfl, ?_⟩
      skip
      have h1' : ¬ brkK r a life years = 0 := by simpa using h1
      rw [(err h1').1, (err h1').2]; unfold intsD; rw [intsC_nil]; rfl
    exfalso
    have : brkK r a life years = 0 := by simpa using h1
    rw [hcode false (by simp [hL])] at this
    have := (askC_ok this).2
    cases this
  conv => whnf
  repeat (first | (refine And.intro (by first  | exact rfl | decide | omega | (simp [splice]; done) | (constructor <;> omega) | (simp [splice]; omega)) ?_; conv => whnf) | (refine optK_of (intA (by omega)) ?_; conv => whnf) | (refine optK_of (intA' (by omega)) ?_; conv => whnf) | (refine optK_of (markIA (by omega)) ?_; conv => whnf) | (refine optK_of (gridN (by omega) (by omega)) ?_; conv => whnf) | (refine optK_of (placeA (by omega)) ?_; conv => whnf) | (refine optK_of (placeB (by omega)) ?_; conv => whnf) | (refine optK_of (placeA' (by omega)) ?_; conv => whnf) | (refine optK_of (placeB' (by omega)) ?_; conv => whnf))
  first | refine ⟨_, _, rfl, Sat.of_eq (l07Years_sat years) (by repeat (first | rfl | exact vfull (by first | (simp [splice]; done) | (simp [splice]; omega)) | exact rfull (by first | (simp [splice]; done) | (simp [splice]; omega)) | exact vplace (by simp; done) (by omega) | exact vrow (by simp; done) (by omega) | exact vtiles (by simp) | exact vsplice (by simp) (by simp) | refine ceq ?_ ?_ | refine Eq.trans (vsplice (by first | (simp; done) | (simp; omega)) (by first | (simp; done) | (simp; omega))) ?_)), ?_⟩ | refine .inl ⟨_, _, rfl, Sat.of_eq (l07Years_sat years) (by repeat (first | rfl | exact vfull (by first | (simp [splice]; done) | (simp [splice]; omega)) | exact rfull (by first | (simp [splice]; done) | (simp [splice]; omega)) | exact vplace (by simp; done) (by omega) | exact vrow (by simp; done) (by omega) | exact vtiles (by simp) | exact vsplice (by simp) (by simp) | refine ceq ?_ ?_ | refine Eq.trans (vsplice (by first | (simp; done) | (simp; omega)) (by first | (simp; done) | (simp; omega))) ?_)), ?_⟩
  conv => whnf
  repeat (first | (refine And.intro (by first  | exact rfl | decide | omega | (simp [splice]; done) | (constructor <;> omega) | (simp [splice]; omega)) ?_; conv => whnf) | (refine optK_of (intA (by omega)) ?_; conv => whnf) | (refine optK_of (intA' (by omega)) ?_; conv => whnf) | (refine optK_of (markIA (by omega)) ?_; conv => whnf) | (refine optK_of (gridN (by omega) (by omega)) ?_; conv => whnf) | (refine optK_of (placeA (by omega)) ?_; conv => whnf) | (refine optK_of (placeB (by omega)) ?_; conv => whnf) | (refine optK_of (placeA' (by omega)) ?_; conv => whnf) | (refine optK_of (placeB' (by omega)) ?_; conv => whnf))
  first | refine ⟨_, _, rfl, Sat.of_eq (l07Asked_sat r hr a ha _) (by repeat (first | rfl | exact vfull (by first | (simp [splice]; done) | (simp [splice]; omega)) | exact rfull (by first | (simp [splice]; done) | (simp [splice]; omega)) | exact vplace (by simp; done) (by omega) | exact vrow (by simp; done) (by omega) | exact vtiles (by simp) | exact vsplice (by simp) (by simp) | refine ceq ?_ ?_ | refine Eq.trans (vsplice (by first | (simp; done) | (simp; omega)) (by first | (simp; done) | (simp; omega))) ?_)), ?_⟩ | refine .inl ⟨_, _, rfl, Sat.of_eq (l07Asked_sat r hr a ha _) (by repeat (first | rfl | exact vfull (by first | (simp [splice]; done) | (simp [splice]; omega)) | exact rfull (by first | (simp [splice]; done) | (simp [splice]; omega)) | exact vplace (by simp; done) (by omega) | exact vrow (by simp; done) (by omega) | exact vtiles (by simp) | exact vsplice (by simp) (by simp) | refine ceq ?_ ?_ | refine Eq.trans (vsplice (by first | (simp; done) | (simp; omega)) (by first | (simp; done) | (simp; omega))) ?_)), ?_⟩
  conv => whnf
  repeat (first | (refine And.intro (by first  | exact rfl | decide | omega | (simp [splice]; done) | (constructor <;> omega) | (simp [splice]; omega)) ?_; conv => whnf) | (refine optK_of (intA (by omega)) ?_; conv => whnf) | (refine optK_of (intA' (by omega)) ?_; conv => whnf) | (refine optK_of (markIA (by omega)) ?_; conv => whnf) | (refine optK_of (gridN (by omega) (by omega)) ?_; conv => whnf) | (refine optK_of (placeA (by omega)) ?_; conv => whnf) | (refine optK_of (placeB (by omega)) ?_; conv => whnf) | (refine optK_of (placeA' (by omega)) ?_; conv => whnf) | (refine optK_of (placeB' (by omega)) ?_; conv => whnf))
  rw [← hcode _ (by simp [hL])]
  refine bsplitT (fun h1 => ?_) (fun h1 => ?_)
  all_goals (conv => whnf)
  all_goals (repeat (first | (refine And.intro (by first  | exact rfl | decide | omega | (simp [splice]; done) | (constructor <;> omega) | (simp [splice]; omega)) ?_; conv => whnf) | (refine optK_of (intA (by omega)) ?_; conv => whnf) | (refine optK_of (intA' (by omega)) ?_; conv => whnf) | (refine optK_of (markIA (by omega)) ?_; conv => whnf) | (refine optK_of (gridN (by omega) (by omega)) ?_; conv => whnf) | (refine optK_of (placeA (by omega)) ?_; conv => whnf) | (refine optK_of (placeB (by omega)) ?_; conv => whnf) | (refine optK_of (placeA' (by omega)) ?_; conv => whnf) | (refine optK_of (placeB' (by omega)) ?_; conv => whnf)))
  · first | refine ⟨rfl, _, rfl, ?_⟩ | refine ⟨_, rfl, ?_⟩
    skip
    have h1' : ¬ brkK r a life years = 0 := by simpa using h1
    rw [(err h1').1, (err h1').2]; unfold intsD; rw [intsC_nil]; rfl
  have hz : brkK r a life years = 0 := by simpa using h1
  obtain ⟨hb, hold, hl, hy⟩ := brk_facts ha hz
  first | refine ⟨_, _, rfl, Sat.of_eq (l07Visits_sat r hr hb a ha hold life years hl hy) (by repeat (first | rfl | exact vfull (by first | (simp [splice]; done) | (simp [splice]; omega)) | exact rfull (by first | (simp [splice]; done) | (simp [splice]; omega)) | exact vplace (by simp; done) (by omega) | exact vrow (by simp; done) (by omega) | exact vtiles (by simp) | exact vsplice (by simp) (by simp) | refine ceq ?_ ?_ | refine Eq.trans (vsplice (by first | (simp; done) | (simp; omega)) (by first | (simp; done) | (simp; omega))) ?_)), ?_⟩ | refine .inl ⟨_, _, rfl, Sat.of_eq (l07Visits_sat r hr hb a ha hold life years hl hy) (by repeat (first | rfl | exact vfull (by first | (simp [splice]; done) | (simp [splice]; omega)) | exact rfull (by first | (simp [splice]; done) | (simp [splice]; omega)) | exact vplace (by simp; done) (by omega) | exact vrow (by simp; done) (by omega) | exact vtiles (by simp) | exact vsplice (by simp) (by simp) | refine ceq ?_ ?_ | refine Eq.trans (vsplice (by first | (simp; done) | (simp; omega)) (by first | (simp; done) | (simp; omega))) ?_)), ?_⟩
  conv => whnf
  repeat (first | (refine And.intro (by first  | exact rfl | decide | omega | (simp [splice]; done) | (constructor <;> omega) | (simp [splice]; omega)) ?_; conv => whnf) | (refine optK_of (intA (by omega)) ?_; conv => whnf) | (refine optK_of (intA' (by omega)) ?_; conv => whnf) | (refine optK_of (markIA (by omega)) ?_; conv => whnf) | (refine optK_of (gridN (by omega) (by omega)) ?_; conv => whnf) | (refine optK_of (placeA (by omega)) ?_; conv => whnf) | (refine optK_of (placeB (by omega)) ?_; conv => whnf) | (refine optK_of (placeA' (by omega)) ?_; conv => whnf) | (refine optK_of (placeB' (by omega)) ?_; conv => whnf))
  cases h2 : decide (ageP a (oldP r a) > life)
  case true =>
    have h2' : ageP a (oldP r a) > life := by simpa using h2
    have hk : visK r a life years = 6 := by unfold visK; rw [if_pos hz, if_pos h2']
    rw [if_pos h2', hk, show repX r a life years = [] by unfold repX; rw [hk]; rfl]
    conv => whnf
    repeat (first | (refine And.intro (by first  | exact rfl | decide | omega | (simp [splice]; done) | (constructor <;> omega) | (simp [splice]; omega)) ?_; conv => whnf) | (refine optK_of (intA (by omega)) ?_; conv => whnf) | (refine optK_of (intA' (by omega)) ?_; conv => whnf) | (refine optK_of (markIA (by omega)) ?_; conv => whnf) | (refine optK_of (gridN (by omega) (by omega)) ?_; conv => whnf) | (refine optK_of (placeA (by omega)) ?_; conv => whnf) | (refine optK_of (placeB (by omega)) ?_; conv => whnf) | (refine optK_of (placeA' (by omega)) ?_; conv => whnf) | (refine optK_of (placeB' (by omega)) ?_; conv => whnf))
    first | refine ⟨rfl, _, rfl, ?_⟩ | refine ⟨_, rfl, ?_⟩
    skip
    unfold intsD; rw [intsC_nil]; rfl
  have h2' : ¬ ageP a (oldP r a) > life := by simpa using h2
  have hk : visK r a life years = 0 := by unfold visK; rw [if_pos hz, if_neg h2']
  rw [if_neg h2', hk, show repX r a life years = outI life years (visL life years 400 (life - ageP a (oldP r a))) ((gridP r.w.toNat r.h.toNat).map (negA a)) (visL life years 400 (life - ageP a (oldP r a))).length by unfold repX; rw [if_pos hk]]
  have hall : Sat Try.prog 64 [.ref false (roofD r) 0] (placesD true (gridP r.w.toNat r.h.toNat)) := by rw [← allP_true]; exact l01All_sat r hr hb
  have hps := gridP_in (w := r.w.toNat) (h := r.h.toNat) (by omega) (by omega)
  have hsz := gridP_size hb
  have hvl := visL_len life years 400 (life - ageP a (oldP r a))
  have hvm := fun x => visL_mem (years := years) hl.1 400 (life - ageP a (oldP r a)) x
  generalize hvs : visL life years 400 (life - ageP a (oldP r a)) = vs at *
  have hvi : ∀ i, i < vs.length → In3 (ix vs i) := fun i hi => by
    have := hvm _ (ix_mem hi)
    unfold In3
    omega
  clear hvm
  have hag : ∀ i, i < (gridP r.w.toNat r.h.toNat).length → 0 ≤ a (nthP (gridP r.w.toNat r.h.toNat) i).1 (nthP (gridP r.w.toNat r.h.toNat) i).2 ∧ a (nthP (gridP r.w.toNat r.h.toNat) i).1 (nthP (gridP r.w.toNat r.h.toNat) i).2 ≤ 100 := fun i hi =>
    ⟨(ha.t _ _).1, okA_ages (askC_ok hz).1 (hps i hi).1 (hps i hi).2⟩
  generalize gridP r.w.toNat r.h.toNat = ps at *
  conv => whnf
  repeat (first | (refine And.intro (by first  | exact rfl | decide | omega | (simp [splice]; done) | (constructor <;> omega) | (simp [splice]; omega)) ?_; conv => whnf) | (refine optK_of (intA (by omega)) ?_; conv => whnf) | (refine optK_of (intA' (by omega)) ?_; conv => whnf) | (refine optK_of (markIA (by omega)) ?_; conv => whnf) | (refine optK_of (gridN (by omega) (by omega)) ?_; conv => whnf) | (refine optK_of (placeA (by omega)) ?_; conv => whnf) | (refine optK_of (placeB (by omega)) ?_; conv => whnf) | (refine optK_of (placeA' (by omega)) ?_; conv => whnf) | (refine optK_of (placeB' (by omega)) ?_; conv => whnf))
  first | refine ⟨_, _, rfl, Sat.of_eq (hall) (by repeat (first | rfl | exact vfull (by first | (simp [splice]; done) | (simp [splice]; omega)) | exact rfull (by first | (simp [splice]; done) | (simp [splice]; omega)) | exact vplace (by simp; done) (by omega) | exact vrow (by simp; done) (by omega) | exact vtiles (by simp) | exact vsplice (by simp) (by simp) | refine ceq ?_ ?_ | refine Eq.trans (vsplice (by first | (simp; done) | (simp; omega)) (by first | (simp; done) | (simp; omega))) ?_)), ?_⟩ | refine .inl ⟨_, _, rfl, Sat.of_eq (hall) (by repeat (first | rfl | exact vfull (by first | (simp [splice]; done) | (simp [splice]; omega)) | exact rfull (by first | (simp [splice]; done) | (simp [splice]; omega)) | exact vplace (by simp; done) (by omega) | exact vrow (by simp; done) (by omega) | exact vtiles (by simp) | exact vsplice (by simp) (by simp) | refine ceq ?_ ?_ | refine Eq.trans (vsplice (by first | (simp; done) | (simp; omega)) (by first | (simp; done) | (simp; omega))) ?_)), ?_⟩
  conv => whnf
  repeat (first | (refine And.intro (by first  | exact rfl | decide | omega | (simp [splice]; done) | (constructor <;> omega) | (simp [splice]; omega)) ?_; conv => whnf) | (refine optK_of (intA (by omega)) ?_; conv => whnf) | (refine optK_of (intA' (by omega)) ?_; conv => whnf) | (refine optK_of (markIA (by omega)) ?_; conv => whnf) | (refine optK_of (gridN (by omega) (by omega)) ?_; conv => whnf) | (refine optK_of (placeA (by omega)) ?_; conv => whnf) | (refine optK_of (placeB (by omega)) ?_; conv => whnf) | (refine optK_of (placeA' (by omega)) ?_; conv => whnf) | (refine optK_of (placeB' (by omega)) ?_; conv => whnf))
  refine loop_rule (α := Nat) (fun i => [(2, .v (.int .i64 life)), (3, .v (.int .i64 years)), (5, .ptr (5, 0, 0) 0), (11, .slc true 1 (35, 0, 0) 0 vs.length), (13, .slc true 2 (41, 0, 0) 0 ps.length), (14, .slc true 1 (44, 0, 0) 0 ps.length), (15, .v (.int .i64 i))]) (fun i => [((5, 0, 0), gridD a), ((35, 0, 0), .v (.agg ⟨intsC vs⟩)), ((41, 0, 0), .v (.agg ⟨placesC ps⟩)), ((44, 0, 0), .v (.agg ⟨intsC (cpM (negA a) ps i)⟩))]) (fun i => i ≤ ps.length) (fun i => ps.length - i) (0) ?_ (sim_of (rn := [((5, 0, 0), (5, 0, 0)), ((35, 0, 0), (35, 0, 0)), ((41, 0, 0), (41, 0, 0)), ((44, 0, 0), (44, 0, 0))]) rfl ?_ ?_) ?_
  · first | omega | (dsimp only; omega) | ((repeat' apply And.intro) <;> omega) | (dsimp only; (repeat' apply And.intro) <;> omega) | trivial
  · ((repeat' (first | exact trivial | apply And.intro)) <;> (first | rfl | exact succ8 (by omega) | exact succ64 (by omega) | exact CapOk.fn (by assumption) _ _ | exact vintS (by omega) | exact vintS (by rw [w64 (by omega) (by omega)]; omega) | exact vintS (by rw [w8 (by omega) (by omega)]; omega) | exact vslcS (by omega) | exact vslcS (by simp)))
  · ((repeat' (first | exact trivial | apply And.intro)) <;> (refine ⟨_, _, rfl, rfl, ?_⟩; first | rfl | (exact cset (cpM_zero (negA a) ps))))
  intro i hi
  have hcl := cpM_len (negA a) hi
  conv => whnf
  repeat (first | (refine And.intro (by first  | exact rfl | decide | omega | (simp [splice]; done) | (constructor <;> omega) | (simp [splice]; omega)) ?_; conv => whnf) | (refine optK_of (intA (by omega)) ?_; conv => whnf) | (refine optK_of (intA' (by omega)) ?_; conv => whnf) | (refine optK_of (markIA (by omega)) ?_; conv => whnf) | (refine optK_of (gridN (by omega) (by omega)) ?_; conv => whnf) | (refine optK_of (placeA (by omega)) ?_; conv => whnf) | (refine optK_of (placeB (by omega)) ?_; conv => whnf) | (refine optK_of (placeA' (by omega)) ?_; conv => whnf) | (refine optK_of (placeB' (by omega)) ?_; conv => whnf))
  cases h : decide ((i : Int) < (ps.length : Int))
  case true =>
    have hin : i < ps.length := by simpa using h
    have hqi := hps i hin
    have hai := hag i hin
    conv => whnf
    repeat (first | (refine And.intro (by first  | exact rfl | decide | omega | (simp [splice]; done) | (constructor <;> omega) | (simp [splice]; omega)) ?_; conv => whnf) | (refine optK_of (intA (by omega)) ?_; conv => whnf) | (refine optK_of (intA' (by omega)) ?_; conv => whnf) | (refine optK_of (markIA (by omega)) ?_; conv => whnf) | (refine optK_of (gridN (by omega) (by omega)) ?_; conv => whnf) | (refine optK_of (placeA (by omega)) ?_; conv => whnf) | (refine optK_of (placeB (by omega)) ?_; conv => whnf) | (refine optK_of (placeA' (by omega)) ?_; conv => whnf) | (refine optK_of (placeB' (by omega)) ?_; conv => whnf))
    first | refine ⟨_, _, rfl, Sat.of_eq (l07Age_sat a ha (nthP ps i).1 (nthP ps i).2 hqi.1 hqi.2) (by repeat (first | rfl | exact vfull (by first | (simp [splice]; done) | (simp [splice]; omega)) | exact rfull (by first | (simp [splice]; done) | (simp [splice]; omega)) | exact vplace (by simp; done) (by omega) | exact vrow (by simp; done) (by omega) | exact vtiles (by simp) | exact vsplice (by simp) (by simp) | refine ceq ?_ ?_ | refine Eq.trans (vsplice (by first | (simp; done) | (simp; omega)) (by first | (simp; done) | (simp; omega))) ?_)), ?_⟩ | refine .inl ⟨_, _, rfl, Sat.of_eq (l07Age_sat a ha (nthP ps i).1 (nthP ps i).2 hqi.1 hqi.2) (by repeat (first | rfl | exact vfull (by first | (simp [splice]; done) | (simp [splice]; omega)) | exact rfull (by first | (simp [splice]; done) | (simp [splice]; omega)) | exact vplace (by simp; done) (by omega) | exact vrow (by simp; done) (by omega) | exact vtiles (by simp) | exact vsplice (by simp) (by simp) | refine ceq ?_ ?_ | refine Eq.trans (vsplice (by first | (simp; done) | (simp; omega)) (by first | (simp; done) | (simp; omega))) ?_)), ?_⟩
    conv => whnf
    repeat (first | (refine And.intro (by first  | exact rfl | decide | omega | (simp [splice]; done) | (constructor <;> omega) | (simp [splice]; omega)) ?_; conv => whnf) | (refine optK_of (intA (by omega)) ?_; conv => whnf) | (refine optK_of (intA' (by omega)) ?_; conv => whnf) | (refine optK_of (markIA (by omega)) ?_; conv => whnf) | (refine optK_of (gridN (by omega) (by omega)) ?_; conv => whnf) | (refine optK_of (placeA (by omega)) ?_; conv => whnf) | (refine optK_of (placeB (by omega)) ?_; conv => whnf) | (refine optK_of (placeA' (by omega)) ?_; conv => whnf) | (refine optK_of (placeB' (by omega)) ?_; conv => whnf))
    have setA : (intsC (cpM (negA a) ps i)).set (0 + (i : Int).toNat * 1) (.int .i64 (IntKind.i64.wrap (0 - a (nthP ps i).1 (nthP ps i).2))) = intsC (cpM (negA a) ps (i + 1)) := by
      rw [show IntKind.i64.wrap (0 - a (nthP ps i).1 (nthP ps i).2) = negA a (nthP ps i) by unfold negA; rw [w64 (by omega) (by omega)]; omega]
      rw [show 0 + (i : Int).toNat * 1 = i by omega, intsC_set, cpM_next _ hin]
    refine ⟨i + 1, ?_, ?_, sim_of (rn := [((5, 0, 0), (5, 0, 0)), ((35, 0, 0), (35, 0, 0)), ((41, 0, 0), (41, 0, 0)), ((44, 0, 0), (44, 0, 0))]) rfl ?_ ?_⟩
    · (dsimp only; omega)
    · first | omega | (dsimp only; omega) | ((repeat' apply And.intro) <;> omega) | (dsimp only; (repeat' apply And.intro) <;> omega) | trivial
    · ((repeat' (first | exact trivial | apply And.intro)) <;> (first | rfl | exact succ8 (by omega) | exact succ64 (by omega) | exact CapOk.fn (by assumption) _ _ | exact vintS (by omega) | exact vintS (by rw [w64 (by omega) (by omega)]; omega) | exact vintS (by rw [w8 (by omega) (by omega)]; omega) | exact vslcS (by omega) | exact vslcS (by simp)))
    · ((repeat' (first | exact trivial | apply And.intro)) <;> (refine ⟨_, _, rfl, rfl, ?_⟩; first | rfl | (exact cset setA)))
  have hin : i = ps.length := by simp at h; omega
  subst hin
  rw [cpM_all]
  have hlm : ps.length = (ps.map (negA a)).length := by simp
  have hbm : ∀ k, k < (ps.map (negA a)).length → In3 (ix (ps.map (negA a)) k) := by
    intro k hk
    obtain ⟨q, hq, e⟩ := List.mem_map.1 (ix_mem hk)
    obtain ⟨i, hi⟩ := List.getElem?_of_mem hq
    have hil : i < ps.length := (List.getElem?_eq_some_iff.1 hi).1
    have hai := hag i hil
    rw [nthP_some hil] at hi
    simp only [Option.some.injEq] at hi
    rw [hi] at hai
    rw [← e]
    unfold In3 negA
    omega
  have hb0 : (ps.map (negA a)).length ≤ 72 := by rw [List.length_map]; exact hsz.2
  rw [hlm]
  generalize ps.map (negA a) = b0 at *
  conv => whnf
  repeat (first | (refine And.intro (by first  | exact rfl | decide | omega | (simp [splice]; done) | (constructor <;> omega) | (simp [splice]; omega)) ?_; conv => whnf) | (refine optK_of (intA (by omega)) ?_; conv => whnf) | (refine optK_of (intA' (by omega)) ?_; conv => whnf) | (refine optK_of (markIA (by omega)) ?_; conv => whnf) | (refine optK_of (gridN (by omega) (by omega)) ?_; conv => whnf) | (refine optK_of (placeA (by omega)) ?_; conv => whnf) | (refine optK_of (placeB (by omega)) ?_; conv => whnf) | (refine optK_of (placeA' (by omega)) ?_; conv => whnf) | (refine optK_of (placeB' (by omega)) ?_; conv => whnf))
  refine loop_rule (α := Nat) (fun i => [(2, .v (.int .i64 life)), (3, .v (.int .i64 years)), (11, .slc true 1 (35, 0, 0) 0 vs.length), (13, .slc true 2 (41, 0, 0) 0 b0.length), (14, .slc true 1 (44, 0, 0) 0 b0.length), (16, .slc true 1 (104, 0, 0) 0 (outI life years vs b0 i).length), (17, .v (.int .i64 i))]) (fun i => [((35, 0, 0), .v (.agg ⟨intsC vs⟩)), ((44, 0, 0), .v (.agg ⟨intsC (bornI life years vs b0 i)⟩)), ((104, 0, 0), .v (.agg ⟨intsC (outI life years vs b0 i)⟩))]) (fun i => i ≤ vs.length) (fun i => vs.length - i) (0) ?_ (sim_of (rn := [((35, 0, 0), (35, 0, 0)), ((41, 0, 0), (41, 0, 0)), ((44, 0, 0), (44, 0, 0)), ((104, 0, 0), (60, 1, 0))]) rfl ?_ ?_) ?_
  · first | omega | (dsimp only; omega) | ((repeat' apply And.intro) <;> omega) | (dsimp only; (repeat' apply And.intro) <;> omega) | trivial
  · ((repeat' (first | exact trivial | apply And.intro)) <;> (first | rfl | exact succ8 (by omega) | exact succ64 (by omega) | exact CapOk.fn (by assumption) _ _ | exact vintS (by omega) | exact vintS (by rw [w64 (by omega) (by omega)]; omega) | exact vintS (by rw [w8 (by omega) (by omega)]; omega) | exact vslcS (by omega) | exact vslcS (by simp)))
  · ((repeat' (first | exact trivial | apply And.intro)) <;> (refine ⟨_, _, rfl, rfl, ?_⟩; first | rfl | ((unfold outI; rw [intsC_nil]; rfl))))
  clear h
  intro i hi
  have hol := outI_len life years vs b0 i
  conv => whnf
  repeat (first | (refine And.intro (by first  | exact rfl | decide | omega | (simp [splice]; done) | (constructor <;> omega) | (simp [splice]; omega)) ?_; conv => whnf) | (refine optK_of (intA (by omega)) ?_; conv => whnf) | (refine optK_of (intA' (by omega)) ?_; conv => whnf) | (refine optK_of (markIA (by omega)) ?_; conv => whnf) | (refine optK_of (gridN (by omega) (by omega)) ?_; conv => whnf) | (refine optK_of (placeA (by omega)) ?_; conv => whnf) | (refine optK_of (placeB (by omega)) ?_; conv => whnf) | (refine optK_of (placeA' (by omega)) ?_; conv => whnf) | (refine optK_of (placeB' (by omega)) ?_; conv => whnf))
  cases h : decide ((i : Int) < (vs.length : Int))
  · have hin : i = vs.length := by simp at h; omega
    subst hin
    conv => whnf
    repeat (first | (refine And.intro (by first  | exact rfl | decide | omega | (simp [splice]; done) | (constructor <;> omega) | (simp [splice]; omega)) ?_; conv => whnf) | (refine optK_of (intA (by omega)) ?_; conv => whnf) | (refine optK_of (intA' (by omega)) ?_; conv => whnf) | (refine optK_of (markIA (by omega)) ?_; conv => whnf) | (refine optK_of (gridN (by omega) (by omega)) ?_; conv => whnf) | (refine optK_of (placeA (by omega)) ?_; conv => whnf) | (refine optK_of (placeB (by omega)) ?_; conv => whnf) | (refine optK_of (placeA' (by omega)) ?_; conv => whnf) | (refine optK_of (placeB' (by omega)) ?_; conv => whnf))
    first | refine ⟨rfl, _, rfl, ?_⟩ | refine ⟨_, rfl, ?_⟩
    rfl
  have hin : i < vs.length := by simpa using h
  have ei : IntKind.i64.wrap ((i : Int) + 1) = ((i + 1 : Nat) : Int) := by rw [w64 (by omega) (by omega)]; omega
  conv => whnf
  repeat (first | (refine And.intro (by first  | exact rfl | decide | omega | (simp [splice]; done) | (constructor <;> omega) | (simp [splice]; omega)) ?_; conv => whnf) | (refine optK_of (intA (by omega)) ?_; conv => whnf) | (refine optK_of (intA' (by omega)) ?_; conv => whnf) | (refine optK_of (markIA (by omega)) ?_; conv => whnf) | (refine optK_of (gridN (by omega) (by omega)) ?_; conv => whnf) | (refine optK_of (placeA (by omega)) ?_; conv => whnf) | (refine optK_of (placeB (by omega)) ?_; conv => whnf) | (refine optK_of (placeA' (by omega)) ?_; conv => whnf) | (refine optK_of (placeB' (by omega)) ?_; conv => whnf))
  rw [ei]
  cases h9 : decide (((i + 1 : Nat) : Int) < (vs.length : Int))
  all_goals
    (try have h9' : i + 1 < vs.length := by simp only [decide_eq_true_eq] at h9; omega)
    conv => whnf
    repeat (first | (refine And.intro (by first  | exact rfl | decide | omega | (simp [splice]; done) | (constructor <;> omega) | (simp [splice]; omega)) ?_; conv => whnf) | (refine optK_of (intA (by omega)) ?_; conv => whnf) | (refine optK_of (intA' (by omega)) ?_; conv => whnf) | (refine optK_of (markIA (by omega)) ?_; conv => whnf) | (refine optK_of (gridN (by omega) (by omega)) ?_; conv => whnf) | (refine optK_of (placeA (by omega)) ?_; conv => whnf) | (refine optK_of (placeB (by omega)) ?_; conv => whnf) | (refine optK_of (placeA' (by omega)) ?_; conv => whnf) | (refine optK_of (placeB' (by omega)) ?_; conv => whnf))
    (try rw [ei])
    repeat (first | (refine And.intro (by first  | exact rfl | decide | omega | (simp [splice]; done) | (constructor <;> omega) | (simp [splice]; omega)) ?_; conv => whnf) | (refine optK_of (intA (by omega)) ?_; conv => whnf) | (refine optK_of (intA' (by omega)) ?_; conv => whnf) | (refine optK_of (markIA (by omega)) ?_; conv => whnf) | (refine optK_of (gridN (by omega) (by omega)) ?_; conv => whnf) | (refine optK_of (placeA (by omega)) ?_; conv => whnf) | (refine optK_of (placeB (by omega)) ?_; conv => whnf) | (refine optK_of (placeA' (by omega)) ?_; conv => whnf) | (refine optK_of (placeB' (by omega)) ?_; conv => whnf))
    have hbl := bornI_len life years vs b0 i
    have hbi := bornI_in (life := life) (years := years) hvi hbm i hi
    have hnx := nxAt_in (years := years) hvi hy i
    refine loop_rule (α := Nat) (fun k => [(2, .v (.int .i64 life)), (3, .v (.int .i64 years)), (11, .slc true 1 (35, 0, 0) 0 vs.length), (13, .slc true 2 (41, 0, 0) 0 b0.length), (14, .slc true 1 (44, 0, 0) 0 b0.length), (16, .slc true 1 (104, 0, 0) 0 (outI life years vs b0 i).length), (17, .v (.int .i64 i)), (18, .v (.int .i64 (nxAt years vs i))), (19, .v (.int .i64 (cntS life (nxAt years vs i) (bornI life years vs b0 i) k : Nat))), (20, .v (.int .i64 k))]) (fun k => [((35, 0, 0), .v (.agg ⟨intsC vs⟩)), ((44, 0, 0), .v (.agg ⟨intsC (bornS life (nxAt years vs i) (ix vs i) (bornI life years vs b0 i) k)⟩)), ((104, 0, 0), .v (.agg ⟨intsC (outI life years vs b0 i)⟩))]) (fun k => k ≤ b0.length) (fun k => b0.length - k) (0) ?_ (sim_of (rn := [((35, 0, 0), (35, 0, 0)), ((41, 0, 0), (41, 0, 0)), ((44, 0, 0), (44, 0, 0)), ((104, 0, 0), (104, 0, 0))]) rfl ?_ ?_) ?_
    · first | omega | (dsimp only; omega) | ((repeat' apply And.intro) <;> omega) | (dsimp only; (repeat' apply And.intro) <;> omega) | trivial
    · ((repeat' (first | exact trivial | apply And.intro)) <;> (first | rfl | (first | exact vintS (nx_t h9) | exact vintS (nx_f h9)) | exact succ8 (by omega) | exact succ64 (by omega) | exact CapOk.fn (by assumption) _ _ | exact vintS (by omega) | exact vintS (by rw [w64 (by omega) (by omega)]; omega) | exact vintS (by rw [w8 (by omega) (by omega)]; omega) | exact vslcS (by omega) | exact vslcS (by simp)))
    · ((repeat' (first | exact trivial | apply And.intro)) <;> (refine ⟨_, _, rfl, rfl, ?_⟩; first | rfl | (rw [bornS_zero]; rfl)))
    intro k hk
    have hsl := bornS_len life (nxAt years vs i) (ix vs i) (bornI life years vs b0 i) k
    have hcl := cntS_le (life := life) (nx := nxAt years vs i) (born := bornI life years vs b0 i) (k := k)
    clear h9
    conv => whnf
    repeat (first | (refine And.intro (by first  | exact rfl | decide | omega | (simp [splice]; done) | (constructor <;> omega) | (simp [splice]; omega)) ?_; conv => whnf) | (refine optK_of (intA (by omega)) ?_; conv => whnf) | (refine optK_of (intA' (by omega)) ?_; conv => whnf) | (refine optK_of (markIA (by omega)) ?_; conv => whnf) | (refine optK_of (gridN (by omega) (by omega)) ?_; conv => whnf) | (refine optK_of (placeA (by omega)) ?_; conv => whnf) | (refine optK_of (placeB (by omega)) ?_; conv => whnf) | (refine optK_of (placeA' (by omega)) ?_; conv => whnf) | (refine optK_of (placeB' (by omega)) ?_; conv => whnf))
    cases h10 : decide ((k : Int) < (b0.length : Int))
    · have hkb : k = b0.length := by simp at h10; omega
      subst hkb
      conv => whnf
      repeat (first | (refine And.intro (by first  | exact rfl | decide | omega | (simp [splice]; done) | (constructor <;> omega) | (simp [splice]; omega)) ?_; conv => whnf) | (refine optK_of (intA (by omega)) ?_; conv => whnf) | (refine optK_of (intA' (by omega)) ?_; conv => whnf) | (refine optK_of (markIA (by omega)) ?_; conv => whnf) | (refine optK_of (gridN (by omega) (by omega)) ?_; conv => whnf) | (refine optK_of (placeA (by omega)) ?_; conv => whnf) | (refine optK_of (placeB (by omega)) ?_; conv => whnf) | (refine optK_of (placeA' (by omega)) ?_; conv => whnf) | (refine optK_of (placeB' (by omega)) ?_; conv => whnf))
      have e2 : intsC (outI life years vs b0 i) ++ [.int .i64 (cntS life (nxAt years vs i) (bornI life years vs b0 i) b0.length : Nat)] = intsC (outI life years vs b0 (i + 1)) := by rw [← intsC_one, ← intsC_append]; rfl
      refine ⟨i + 1, ?_, ?_, sim_of (rn := [((35, 0, 0), (35, 0, 0)), ((41, 0, 0), (41, 0, 0)), ((44, 0, 0), (44, 0, 0)), ((104, 0, 0), (104, 1, 0))]) rfl ?_ ?_⟩
      · (dsimp only; omega)
      · first | omega | (dsimp only; omega) | ((repeat' apply And.intro) <;> omega) | (dsimp only; (repeat' apply And.intro) <;> omega) | trivial
      · ((repeat' (first | exact trivial | apply And.intro)) <;> (first | rfl | exact succ8 (by omega) | exact succ64 (by omega) | exact CapOk.fn (by assumption) _ _ | exact vintS (by omega) | exact vintS (by rw [w64 (by omega) (by omega)]; omega) | exact vintS (by rw [w8 (by omega) (by omega)]; omega) | exact vslcS (by omega) | exact vslcS (by simp)))
      · ((repeat' (first | exact trivial | apply And.intro)) <;> (refine ⟨_, _, rfl, rfl, ?_⟩; first | rfl | (exact cset e2)))
    have hkb : k < b0.length := by simpa using h10
    have hbk := hbi k hkb
    unfold In3 at hbk hnx
    conv => whnf
    repeat (first | (refine And.intro (by first  | exact rfl | decide | omega | (simp [splice]; done) | (constructor <;> omega) | (simp [splice]; omega)) ?_; conv => whnf) | (refine optK_of (intA (by omega)) ?_; conv => whnf) | (refine optK_of (intA' (by omega)) ?_; conv => whnf) | (refine optK_of (markIA (by omega)) ?_; conv => whnf) | (refine optK_of (gridN (by omega) (by omega)) ?_; conv => whnf) | (refine optK_of (placeA (by omega)) ?_; conv => whnf) | (refine optK_of (placeB (by omega)) ?_; conv => whnf) | (refine optK_of (placeA' (by omega)) ?_; conv => whnf) | (refine optK_of (placeB' (by omega)) ?_; conv => whnf))
    rw [bornS_at (by omega)]
    rw [show IntKind.i64.wrap (nxAt years vs i - ix (bornI life years vs b0 i) k) = nxAt years vs i - ix (bornI life years vs b0 i) k from w64 (by omega) (by omega)]
    cases h11 : decide (nxAt years vs i - ix (bornI life years vs b0 i) k > life)
    · have h11' : ¬ nxAt years vs i - ix (bornI life years vs b0 i) k > life := by simpa using h11
      have ec : cntS life (nxAt years vs i) (bornI life years vs b0 i) (k + 1) = cntS life (nxAt years vs i) (bornI life years vs b0 i) k := by rw [cntS_next (by omega), if_neg h11']; rfl
      rw [← bornS_no (by omega) h11', ← ec]
      conv => whnf
      repeat (first | (refine And.intro (by first  | exact rfl | decide | omega | (simp [splice]; done) | (constructor <;> omega) | (simp [splice]; omega)) ?_; conv => whnf) | (refine optK_of (intA (by omega)) ?_; conv => whnf) | (refine optK_of (intA' (by omega)) ?_; conv => whnf) | (refine optK_of (markIA (by omega)) ?_; conv => whnf) | (refine optK_of (gridN (by omega) (by omega)) ?_; conv => whnf) | (refine optK_of (placeA (by omega)) ?_; conv => whnf) | (refine optK_of (placeB (by omega)) ?_; conv => whnf) | (refine optK_of (placeA' (by omega)) ?_; conv => whnf) | (refine optK_of (placeB' (by omega)) ?_; conv => whnf))
      refine ⟨k + 1, ?_, ?_, sim_of (rn := [((35, 0, 0), (35, 0, 0)), ((41, 0, 0), (41, 0, 0)), ((44, 0, 0), (44, 0, 0)), ((104, 0, 0), (104, 0, 0))]) rfl ?_ ?_⟩
      · (dsimp only; omega)
      · first | omega | (dsimp only; omega) | ((repeat' apply And.intro) <;> omega) | (dsimp only; (repeat' apply And.intro) <;> omega) | trivial
      · ((repeat' (first | exact trivial | apply And.intro)) <;> (first | rfl | exact succ8 (by omega) | exact succ64 (by omega) | exact CapOk.fn (by assumption) _ _ | exact vintS (by omega) | exact vintS (by rw [w64 (by omega) (by omega)]; omega) | exact vintS (by rw [w8 (by omega) (by omega)]; omega) | exact vslcS (by omega) | exact vslcS (by simp)))
      · ((repeat' (first | exact trivial | apply And.intro)) <;> (refine ⟨_, _, rfl, rfl, ?_⟩; first | rfl | (rfl)))
    have h11' : nxAt years vs i - ix (bornI life years vs b0 i) k > life := by simpa using h11
    have ec : cntS life (nxAt years vs i) (bornI life years vs b0 i) (k + 1) = cntS life (nxAt years vs i) (bornI life years vs b0 i) k + 1 := by rw [cntS_next (by omega), if_pos h11']
    conv => whnf
    repeat (first | (refine And.intro (by first  | exact rfl | decide | omega | (simp [splice]; done) | (constructor <;> omega) | (simp [splice]; omega)) ?_; conv => whnf) | (refine optK_of (intA (by omega)) ?_; conv => whnf) | (refine optK_of (intA' (by omega)) ?_; conv => whnf) | (refine optK_of (markIA (by omega)) ?_; conv => whnf) | (refine optK_of (gridN (by omega) (by omega)) ?_; conv => whnf) | (refine optK_of (placeA (by omega)) ?_; conv => whnf) | (refine optK_of (placeB (by omega)) ?_; conv => whnf) | (refine optK_of (placeA' (by omega)) ?_; conv => whnf) | (refine optK_of (placeB' (by omega)) ?_; conv => whnf))
    have setA : (intsC (bornS life (nxAt years vs i) (ix vs i) (bornI life years vs b0 i) k)).set (0 + (k : Int).toNat * 1) (.int .i64 (ix vs i)) = intsC (bornS life (nxAt years vs i) (ix vs i) (bornI life years vs b0 i) (k + 1)) := by
      rw [show 0 + (k : Int).toNat * 1 = k by omega, intsC_set, bornS_yes (by omega) h11']
    refine ⟨k + 1, ?_, ?_, sim_of (rn := [((35, 0, 0), (35, 0, 0)), ((41, 0, 0), (41, 0, 0)), ((44, 0, 0), (44, 0, 0)), ((104, 0, 0), (104, 0, 0))]) rfl ?_ ?_⟩
    · (dsimp only; omega)
    · first | omega | (dsimp only; omega) | ((repeat' apply And.intro) <;> omega) | (dsimp only; (repeat' apply And.intro) <;> omega) | trivial
    · ((repeat' (first | exact trivial | apply And.intro)) <;> (first | rfl | (exact vintS (by rw [ec, w64 (by omega) (by omega)]; omega)) | exact succ8 (by omega) | exact succ64 (by omega) | exact CapOk.fn (by assumption) _ _ | exact vintS (by omega) | exact vintS (by rw [w64 (by omega) (by omega)]; omega) | exact vintS (by rw [w8 (by omega) (by omega)]; omega) | exact vslcS (by omega) | exact vslcS (by simp)))
    · ((repeat' (first | exact trivial | apply And.intro)) <;> (refine ⟨_, _, rfl, rfl, ?_⟩; first | rfl | (exact cset setA)))
theorem fnExactReplacedAt_sat (r : Roof) (hr : r.In) (a : Nat → Nat → Int) (ha : AgesIn a) (life : Int) (hlife : I64 life) (years : Int) (hyears : I64 years) :
    Sat Try.prog 4 [roofD r, gridD a, .v (.int .i64 life), .v (.int .i64 years)] (.v (.bool true)) := by
  have s1 := specReplacedAt_sat r hr a ha life years
  have s2 := replacedAt_sat r hr a ha life years
  have hl : (repX r a life years).length ≤ 400 := by
    unfold repX; split
    · rw [outI_len]; exact visL_len _ _ _ _
    · simp
  generalize repX r a life years = xs at s1 s2 hl
  generalize visK r a life years = x at s1 s2
  refine sat_of_wp hMix tOk Try.func4 rfl rfl Try.ntmps4 rfl rfl Try.results4 (by kernel_rfl) ?_
  conv => whnf
  repeat (first | (refine And.intro (by first  | exact rfl | decide | omega | (simp [splice]; done) | (constructor <;> omega) | (simp [splice]; omega)) ?_; conv => whnf) | (refine optK_of (intA (by omega)) ?_; conv => whnf) | (refine optK_of (intA' (by omega)) ?_; conv => whnf) | (refine optK_of (markIA (by omega)) ?_; conv => whnf) | (refine optK_of (gridN (by omega) (by omega)) ?_; conv => whnf) | (refine optK_of (placeA (by omega)) ?_; conv => whnf) | (refine optK_of (placeB (by omega)) ?_; conv => whnf) | (refine optK_of (placeA' (by omega)) ?_; conv => whnf) | (refine optK_of (placeB' (by omega)) ?_; conv => whnf))
  first | refine ⟨_, _, rfl, Sat.of_eq (toRoof_sat r) (by repeat (first | rfl | exact vfull (by first | (simp [splice]; done) | (simp [splice]; omega)) | exact rfull (by first | (simp [splice]; done) | (simp [splice]; omega)) | exact vplace (by simp; done) (by omega) | exact vrow (by simp; done) (by omega) | exact vtiles (by simp) | exact vsplice (by simp) (by simp) | refine ceq ?_ ?_ | refine Eq.trans (vsplice (by first | (simp; done) | (simp; omega)) (by first | (simp; done) | (simp; omega))) ?_)), ?_⟩ | refine .inl ⟨_, _, rfl, Sat.of_eq (toRoof_sat r) (by repeat (first | rfl | exact vfull (by first | (simp [splice]; done) | (simp [splice]; omega)) | exact rfull (by first | (simp [splice]; done) | (simp [splice]; omega)) | exact vplace (by simp; done) (by omega) | exact vrow (by simp; done) (by omega) | exact vtiles (by simp) | exact vsplice (by simp) (by simp) | refine ceq ?_ ?_ | refine Eq.trans (vsplice (by first | (simp; done) | (simp; omega)) (by first | (simp; done) | (simp; omega))) ?_)), ?_⟩
  conv => whnf
  repeat (first | (refine And.intro (by first  | exact rfl | decide | omega | (simp [splice]; done) | (constructor <;> omega) | (simp [splice]; omega)) ?_; conv => whnf) | (refine optK_of (intA (by omega)) ?_; conv => whnf) | (refine optK_of (intA' (by omega)) ?_; conv => whnf) | (refine optK_of (markIA (by omega)) ?_; conv => whnf) | (refine optK_of (gridN (by omega) (by omega)) ?_; conv => whnf) | (refine optK_of (placeA (by omega)) ?_; conv => whnf) | (refine optK_of (placeB (by omega)) ?_; conv => whnf) | (refine optK_of (placeA' (by omega)) ?_; conv => whnf) | (refine optK_of (placeB' (by omega)) ?_; conv => whnf))
  first | refine ⟨_, _, rfl, Sat.of_eq (toAges_sat a) (by repeat (first | rfl | exact vfull (by first | (simp [splice]; done) | (simp [splice]; omega)) | exact rfull (by first | (simp [splice]; done) | (simp [splice]; omega)) | exact vplace (by simp; done) (by omega) | exact vrow (by simp; done) (by omega) | exact vtiles (by simp) | exact vsplice (by simp) (by simp) | refine ceq ?_ ?_ | refine Eq.trans (vsplice (by first | (simp; done) | (simp; omega)) (by first | (simp; done) | (simp; omega))) ?_)), ?_⟩ | refine .inl ⟨_, _, rfl, Sat.of_eq (toAges_sat a) (by repeat (first | rfl | exact vfull (by first | (simp [splice]; done) | (simp [splice]; omega)) | exact rfull (by first | (simp [splice]; done) | (simp [splice]; omega)) | exact vplace (by simp; done) (by omega) | exact vrow (by simp; done) (by omega) | exact vtiles (by simp) | exact vsplice (by simp) (by simp) | refine ceq ?_ ?_ | refine Eq.trans (vsplice (by first | (simp; done) | (simp; omega)) (by first | (simp; done) | (simp; omega))) ?_)), ?_⟩
  conv => whnf
  repeat (first | (refine And.intro (by first  | exact rfl | decide | omega | (simp [splice]; done) | (constructor <;> omega) | (simp [splice]; omega)) ?_; conv => whnf) | (refine optK_of (intA (by omega)) ?_; conv => whnf) | (refine optK_of (intA' (by omega)) ?_; conv => whnf) | (refine optK_of (markIA (by omega)) ?_; conv => whnf) | (refine optK_of (gridN (by omega) (by omega)) ?_; conv => whnf) | (refine optK_of (placeA (by omega)) ?_; conv => whnf) | (refine optK_of (placeB (by omega)) ?_; conv => whnf) | (refine optK_of (placeA' (by omega)) ?_; conv => whnf) | (refine optK_of (placeB' (by omega)) ?_; conv => whnf))
  first | refine ⟨_, _, rfl, Sat.of_eq (s1) (by repeat (first | rfl | exact vfull (by first | (simp [splice]; done) | (simp [splice]; omega)) | exact rfull (by first | (simp [splice]; done) | (simp [splice]; omega)) | exact vplace (by simp; done) (by omega) | exact vrow (by simp; done) (by omega) | exact vtiles (by simp) | exact vsplice (by simp) (by simp) | refine ceq ?_ ?_ | refine Eq.trans (vsplice (by first | (simp; done) | (simp; omega)) (by first | (simp; done) | (simp; omega))) ?_)), ?_⟩ | refine .inl ⟨_, _, rfl, Sat.of_eq (s1) (by repeat (first | rfl | exact vfull (by first | (simp [splice]; done) | (simp [splice]; omega)) | exact rfull (by first | (simp [splice]; done) | (simp [splice]; omega)) | exact vplace (by simp; done) (by omega) | exact vrow (by simp; done) (by omega) | exact vtiles (by simp) | exact vsplice (by simp) (by simp) | refine ceq ?_ ?_ | refine Eq.trans (vsplice (by first | (simp; done) | (simp; omega)) (by first | (simp; done) | (simp; omega))) ?_)), ?_⟩
  conv => whnf
  repeat (first | (refine And.intro (by first  | exact rfl | decide | omega | (simp [splice]; done) | (constructor <;> omega) | (simp [splice]; omega)) ?_; conv => whnf) | (refine optK_of (intA (by omega)) ?_; conv => whnf) | (refine optK_of (intA' (by omega)) ?_; conv => whnf) | (refine optK_of (markIA (by omega)) ?_; conv => whnf) | (refine optK_of (gridN (by omega) (by omega)) ?_; conv => whnf) | (refine optK_of (placeA (by omega)) ?_; conv => whnf) | (refine optK_of (placeB (by omega)) ?_; conv => whnf) | (refine optK_of (placeA' (by omega)) ?_; conv => whnf) | (refine optK_of (placeB' (by omega)) ?_; conv => whnf))
  first | refine ⟨_, _, rfl, Sat.of_eq (toRoof_sat r) (by repeat (first | rfl | exact vfull (by first | (simp [splice]; done) | (simp [splice]; omega)) | exact rfull (by first | (simp [splice]; done) | (simp [splice]; omega)) | exact vplace (by simp; done) (by omega) | exact vrow (by simp; done) (by omega) | exact vtiles (by simp) | exact vsplice (by simp) (by simp) | refine ceq ?_ ?_ | refine Eq.trans (vsplice (by first | (simp; done) | (simp; omega)) (by first | (simp; done) | (simp; omega))) ?_)), ?_⟩ | refine .inl ⟨_, _, rfl, Sat.of_eq (toRoof_sat r) (by repeat (first | rfl | exact vfull (by first | (simp [splice]; done) | (simp [splice]; omega)) | exact rfull (by first | (simp [splice]; done) | (simp [splice]; omega)) | exact vplace (by simp; done) (by omega) | exact vrow (by simp; done) (by omega) | exact vtiles (by simp) | exact vsplice (by simp) (by simp) | refine ceq ?_ ?_ | refine Eq.trans (vsplice (by first | (simp; done) | (simp; omega)) (by first | (simp; done) | (simp; omega))) ?_)), ?_⟩
  conv => whnf
  repeat (first | (refine And.intro (by first  | exact rfl | decide | omega | (simp [splice]; done) | (constructor <;> omega) | (simp [splice]; omega)) ?_; conv => whnf) | (refine optK_of (intA (by omega)) ?_; conv => whnf) | (refine optK_of (intA' (by omega)) ?_; conv => whnf) | (refine optK_of (markIA (by omega)) ?_; conv => whnf) | (refine optK_of (gridN (by omega) (by omega)) ?_; conv => whnf) | (refine optK_of (placeA (by omega)) ?_; conv => whnf) | (refine optK_of (placeB (by omega)) ?_; conv => whnf) | (refine optK_of (placeA' (by omega)) ?_; conv => whnf) | (refine optK_of (placeB' (by omega)) ?_; conv => whnf))
  first | refine ⟨_, _, rfl, Sat.of_eq (toAges_sat a) (by repeat (first | rfl | exact vfull (by first | (simp [splice]; done) | (simp [splice]; omega)) | exact rfull (by first | (simp [splice]; done) | (simp [splice]; omega)) | exact vplace (by simp; done) (by omega) | exact vrow (by simp; done) (by omega) | exact vtiles (by simp) | exact vsplice (by simp) (by simp) | refine ceq ?_ ?_ | refine Eq.trans (vsplice (by first | (simp; done) | (simp; omega)) (by first | (simp; done) | (simp; omega))) ?_)), ?_⟩ | refine .inl ⟨_, _, rfl, Sat.of_eq (toAges_sat a) (by repeat (first | rfl | exact vfull (by first | (simp [splice]; done) | (simp [splice]; omega)) | exact rfull (by first | (simp [splice]; done) | (simp [splice]; omega)) | exact vplace (by simp; done) (by omega) | exact vrow (by simp; done) (by omega) | exact vtiles (by simp) | exact vsplice (by simp) (by simp) | refine ceq ?_ ?_ | refine Eq.trans (vsplice (by first | (simp; done) | (simp; omega)) (by first | (simp; done) | (simp; omega))) ?_)), ?_⟩
  conv => whnf
  repeat (first | (refine And.intro (by first  | exact rfl | decide | omega | (simp [splice]; done) | (constructor <;> omega) | (simp [splice]; omega)) ?_; conv => whnf) | (refine optK_of (intA (by omega)) ?_; conv => whnf) | (refine optK_of (intA' (by omega)) ?_; conv => whnf) | (refine optK_of (markIA (by omega)) ?_; conv => whnf) | (refine optK_of (gridN (by omega) (by omega)) ?_; conv => whnf) | (refine optK_of (placeA (by omega)) ?_; conv => whnf) | (refine optK_of (placeB (by omega)) ?_; conv => whnf) | (refine optK_of (placeA' (by omega)) ?_; conv => whnf) | (refine optK_of (placeB' (by omega)) ?_; conv => whnf))
  first | refine ⟨_, _, rfl, Sat.of_eq (s2) (by repeat (first | rfl | exact vfull (by first | (simp [splice]; done) | (simp [splice]; omega)) | exact rfull (by first | (simp [splice]; done) | (simp [splice]; omega)) | exact vplace (by simp; done) (by omega) | exact vrow (by simp; done) (by omega) | exact vtiles (by simp) | exact vsplice (by simp) (by simp) | refine ceq ?_ ?_ | refine Eq.trans (vsplice (by first | (simp; done) | (simp; omega)) (by first | (simp; done) | (simp; omega))) ?_)), ?_⟩ | refine .inl ⟨_, _, rfl, Sat.of_eq (s2) (by repeat (first | rfl | exact vfull (by first | (simp [splice]; done) | (simp [splice]; omega)) | exact rfull (by first | (simp [splice]; done) | (simp [splice]; omega)) | exact vplace (by simp; done) (by omega) | exact vrow (by simp; done) (by omega) | exact vtiles (by simp) | exact vsplice (by simp) (by simp) | refine ceq ?_ ?_ | refine Eq.trans (vsplice (by first | (simp; done) | (simp; omega)) (by first | (simp; done) | (simp; omega))) ?_)), ?_⟩
  conv => whnf
  repeat (first | (refine And.intro (by first  | exact rfl | decide | omega | (simp [splice]; done) | (constructor <;> omega) | (simp [splice]; omega)) ?_; conv => whnf) | (refine optK_of (intA (by omega)) ?_; conv => whnf) | (refine optK_of (intA' (by omega)) ?_; conv => whnf) | (refine optK_of (markIA (by omega)) ?_; conv => whnf) | (refine optK_of (gridN (by omega) (by omega)) ?_; conv => whnf) | (refine optK_of (placeA (by omega)) ?_; conv => whnf) | (refine optK_of (placeB (by omega)) ?_; conv => whnf) | (refine optK_of (placeA' (by omega)) ?_; conv => whnf) | (refine optK_of (placeB' (by omega)) ?_; conv => whnf))
  first | refine ⟨_, _, rfl, Sat.of_eq (eqInt64S_same xs (by omega) false false) (by repeat (first | rfl | exact vfull (by first | (simp [splice]; done) | (simp [splice]; omega)) | exact rfull (by first | (simp [splice]; done) | (simp [splice]; omega)) | exact vplace (by simp; done) (by omega) | exact vrow (by simp; done) (by omega) | exact vtiles (by simp) | exact vsplice (by simp) (by simp) | refine ceq ?_ ?_ | refine Eq.trans (vsplice (by first | (simp; done) | (simp; omega)) (by first | (simp; done) | (simp; omega))) ?_)), ?_⟩ | refine .inl ⟨_, _, rfl, Sat.of_eq (eqInt64S_same xs (by omega) false false) (by repeat (first | rfl | exact vfull (by first | (simp [splice]; done) | (simp [splice]; omega)) | exact rfull (by first | (simp [splice]; done) | (simp [splice]; omega)) | exact vplace (by simp; done) (by omega) | exact vrow (by simp; done) (by omega) | exact vtiles (by simp) | exact vsplice (by simp) (by simp) | refine ceq ?_ ?_ | refine Eq.trans (vsplice (by first | (simp; done) | (simp; omega)) (by first | (simp; done) | (simp; omega))) ?_)), ?_⟩
  conv => whnf
  repeat (first | (refine And.intro (by first  | exact rfl | decide | omega | (simp [splice]; done) | (constructor <;> omega) | (simp [splice]; omega)) ?_; conv => whnf) | (refine optK_of (intA (by omega)) ?_; conv => whnf) | (refine optK_of (intA' (by omega)) ?_; conv => whnf) | (refine optK_of (markIA (by omega)) ?_; conv => whnf) | (refine optK_of (gridN (by omega) (by omega)) ?_; conv => whnf) | (refine optK_of (placeA (by omega)) ?_; conv => whnf) | (refine optK_of (placeB (by omega)) ?_; conv => whnf) | (refine optK_of (placeA' (by omega)) ?_; conv => whnf) | (refine optK_of (placeB' (by omega)) ?_; conv => whnf))
  rw [show (x != x) = false by simp]
  conv => whnf
  repeat (first | (refine And.intro (by first  | exact rfl | decide | omega | (simp [splice]; done) | (constructor <;> omega) | (simp [splice]; omega)) ?_; conv => whnf) | (refine optK_of (intA (by omega)) ?_; conv => whnf) | (refine optK_of (intA' (by omega)) ?_; conv => whnf) | (refine optK_of (markIA (by omega)) ?_; conv => whnf) | (refine optK_of (gridN (by omega) (by omega)) ?_; conv => whnf) | (refine optK_of (placeA (by omega)) ?_; conv => whnf) | (refine optK_of (placeB (by omega)) ?_; conv => whnf) | (refine optK_of (placeA' (by omega)) ?_; conv => whnf) | (refine optK_of (placeB' (by omega)) ?_; conv => whnf))
  first | refine ⟨[(34, 0, 0)], _, _, _, _, _, _, _, _, rfl, rfl, rfl, rfl, (SatM.of_eq (markInt64S_satM xs (by omega) 1 (by omega)) (by repeat (first | rfl | exact vfull (by first | (simp [splice]; done) | (simp [splice]; omega)) | exact rfull (by first | (simp [splice]; done) | (simp [splice]; omega)) | exact vplace (by simp; done) (by omega) | exact vrow (by simp; done) (by omega) | exact vtiles (by simp) | exact vsplice (by simp) (by simp) | refine ceq ?_ ?_ | refine Eq.trans (vsplice (by first | (simp; done) | (simp; omega)) (by first | (simp; done) | (simp; omega))) ?_)) (by repeat (first | rfl | exact vfull (by first | (simp [splice]; done) | (simp [splice]; omega)) | exact rfull (by first | (simp [splice]; done) | (simp [splice]; omega)) | exact vplace (by simp; done) (by omega) | exact vrow (by simp; done) (by omega) | exact vtiles (by simp) | exact vsplice (by simp) (by simp) | refine ceq ?_ ?_ | refine Eq.trans (vsplice (by first | (simp; done) | (simp; omega)) (by first | (simp; done) | (simp; omega))) ?_))), rfl, rfl, rfl, rfl, ?_⟩ | refine .inr ⟨[(34, 0, 0)], _, _, _, _, _, _, _, _, rfl, rfl, rfl, rfl, (SatM.of_eq (markInt64S_satM xs (by omega) 1 (by omega)) (by repeat (first | rfl | exact vfull (by first | (simp [splice]; done) | (simp [splice]; omega)) | exact rfull (by first | (simp [splice]; done) | (simp [splice]; omega)) | exact vplace (by simp; done) (by omega) | exact vrow (by simp; done) (by omega) | exact vtiles (by simp) | exact vsplice (by simp) (by simp) | refine ceq ?_ ?_ | refine Eq.trans (vsplice (by first | (simp; done) | (simp; omega)) (by first | (simp; done) | (simp; omega))) ?_)) (by repeat (first | rfl | exact vfull (by first | (simp [splice]; done) | (simp [splice]; omega)) | exact rfull (by first | (simp [splice]; done) | (simp [splice]; omega)) | exact vplace (by simp; done) (by omega) | exact vrow (by simp; done) (by omega) | exact vtiles (by simp) | exact vsplice (by simp) (by simp) | refine ceq ?_ ?_ | refine Eq.trans (vsplice (by first | (simp; done) | (simp; omega)) (by first | (simp; done) | (simp; omega))) ?_))), rfl, rfl, rfl, rfl, ?_⟩ | refine ⟨[(34, 0, 0)], _, _, _, _, _, rfl, rfl, rfl, rfl, (SatM.of_eq (markInt64S_satM xs (by omega) 1 (by omega)) (by repeat (first | rfl | exact vfull (by first | (simp [splice]; done) | (simp [splice]; omega)) | exact rfull (by first | (simp [splice]; done) | (simp [splice]; omega)) | exact vplace (by simp; done) (by omega) | exact vrow (by simp; done) (by omega) | exact vtiles (by simp) | exact vsplice (by simp) (by simp) | refine ceq ?_ ?_ | refine Eq.trans (vsplice (by first | (simp; done) | (simp; omega)) (by first | (simp; done) | (simp; omega))) ?_)) (by repeat (first | rfl | exact vfull (by first | (simp [splice]; done) | (simp [splice]; omega)) | exact rfull (by first | (simp [splice]; done) | (simp [splice]; omega)) | exact vplace (by simp; done) (by omega) | exact vrow (by simp; done) (by omega) | exact vtiles (by simp) | exact vsplice (by simp) (by simp) | refine ceq ?_ ?_ | refine Eq.trans (vsplice (by first | (simp; done) | (simp; omega)) (by first | (simp; done) | (simp; omega))) ?_))), rfl, rfl, ?_⟩
  conv => whnf
  repeat (first | (refine And.intro (by first  | exact rfl | decide | omega | (simp [splice]; done) | (constructor <;> omega) | (simp [splice]; omega)) ?_; conv => whnf) | (refine optK_of (intA (by omega)) ?_; conv => whnf) | (refine optK_of (intA' (by omega)) ?_; conv => whnf) | (refine optK_of (markIA (by omega)) ?_; conv => whnf) | (refine optK_of (gridN (by omega) (by omega)) ?_; conv => whnf) | (refine optK_of (placeA (by omega)) ?_; conv => whnf) | (refine optK_of (placeB (by omega)) ?_; conv => whnf) | (refine optK_of (placeA' (by omega)) ?_; conv => whnf) | (refine optK_of (placeB' (by omega)) ?_; conv => whnf))
  first | refine ⟨_, _, rfl, Sat.of_eq (heldInt64S_sat xs.length (by omega) 1 (by omega) false) (by repeat (first | rfl | exact vfull (by first | (simp [splice]; done) | (simp [splice]; omega)) | exact rfull (by first | (simp [splice]; done) | (simp [splice]; omega)) | exact vplace (by simp; done) (by omega) | exact vrow (by simp; done) (by omega) | exact vtiles (by simp) | exact vsplice (by simp) (by simp) | refine ceq ?_ ?_ | refine Eq.trans (vsplice (by first | (simp; done) | (simp; omega)) (by first | (simp; done) | (simp; omega))) ?_)), ?_⟩ | refine .inl ⟨_, _, rfl, Sat.of_eq (heldInt64S_sat xs.length (by omega) 1 (by omega) false) (by repeat (first | rfl | exact vfull (by first | (simp [splice]; done) | (simp [splice]; omega)) | exact rfull (by first | (simp [splice]; done) | (simp [splice]; omega)) | exact vplace (by simp; done) (by omega) | exact vrow (by simp; done) (by omega) | exact vtiles (by simp) | exact vsplice (by simp) (by simp) | refine ceq ?_ ?_ | refine Eq.trans (vsplice (by first | (simp; done) | (simp; omega)) (by first | (simp; done) | (simp; omega))) ?_)), ?_⟩
  conv => whnf
  repeat (first | (refine And.intro (by first  | exact rfl | decide | omega | (simp [splice]; done) | (constructor <;> omega) | (simp [splice]; omega)) ?_; conv => whnf) | (refine optK_of (intA (by omega)) ?_; conv => whnf) | (refine optK_of (intA' (by omega)) ?_; conv => whnf) | (refine optK_of (markIA (by omega)) ?_; conv => whnf) | (refine optK_of (gridN (by omega) (by omega)) ?_; conv => whnf) | (refine optK_of (placeA (by omega)) ?_; conv => whnf) | (refine optK_of (placeB (by omega)) ?_; conv => whnf) | (refine optK_of (placeA' (by omega)) ?_; conv => whnf) | (refine optK_of (placeB' (by omega)) ?_; conv => whnf))
  rw [show (1 + (xs.length : Int) != 1 + (xs.length : Int)) = false by simp]
  conv => whnf
  repeat (first | (refine And.intro (by first  | exact rfl | decide | omega | (simp [splice]; done) | (constructor <;> omega) | (simp [splice]; omega)) ?_; conv => whnf) | (refine optK_of (intA (by omega)) ?_; conv => whnf) | (refine optK_of (intA' (by omega)) ?_; conv => whnf) | (refine optK_of (markIA (by omega)) ?_; conv => whnf) | (refine optK_of (gridN (by omega) (by omega)) ?_; conv => whnf) | (refine optK_of (placeA (by omega)) ?_; conv => whnf) | (refine optK_of (placeB (by omega)) ?_; conv => whnf) | (refine optK_of (placeA' (by omega)) ?_; conv => whnf) | (refine optK_of (placeB' (by omega)) ?_; conv => whnf))
  first | refine ⟨_, _, rfl, Sat.of_eq (toRoof_sat r) (by repeat (first | rfl | exact vfull (by first | (simp [splice]; done) | (simp [splice]; omega)) | exact rfull (by first | (simp [splice]; done) | (simp [splice]; omega)) | exact vplace (by simp; done) (by omega) | exact vrow (by simp; done) (by omega) | exact vtiles (by simp) | exact vsplice (by simp) (by simp) | refine ceq ?_ ?_ | refine Eq.trans (vsplice (by first | (simp; done) | (simp; omega)) (by first | (simp; done) | (simp; omega))) ?_)), ?_⟩ | refine .inl ⟨_, _, rfl, Sat.of_eq (toRoof_sat r) (by repeat (first | rfl | exact vfull (by first | (simp [splice]; done) | (simp [splice]; omega)) | exact rfull (by first | (simp [splice]; done) | (simp [splice]; omega)) | exact vplace (by simp; done) (by omega) | exact vrow (by simp; done) (by omega) | exact vtiles (by simp) | exact vsplice (by simp) (by simp) | refine ceq ?_ ?_ | refine Eq.trans (vsplice (by first | (simp; done) | (simp; omega)) (by first | (simp; done) | (simp; omega))) ?_)), ?_⟩
  conv => whnf
  repeat (first | (refine And.intro (by first  | exact rfl | decide | omega | (simp [splice]; done) | (constructor <;> omega) | (simp [splice]; omega)) ?_; conv => whnf) | (refine optK_of (intA (by omega)) ?_; conv => whnf) | (refine optK_of (intA' (by omega)) ?_; conv => whnf) | (refine optK_of (markIA (by omega)) ?_; conv => whnf) | (refine optK_of (gridN (by omega) (by omega)) ?_; conv => whnf) | (refine optK_of (placeA (by omega)) ?_; conv => whnf) | (refine optK_of (placeB (by omega)) ?_; conv => whnf) | (refine optK_of (placeA' (by omega)) ?_; conv => whnf) | (refine optK_of (placeB' (by omega)) ?_; conv => whnf))
  first | refine ⟨_, _, rfl, Sat.of_eq (toAges_sat a) (by repeat (first | rfl | exact vfull (by first | (simp [splice]; done) | (simp [splice]; omega)) | exact rfull (by first | (simp [splice]; done) | (simp [splice]; omega)) | exact vplace (by simp; done) (by omega) | exact vrow (by simp; done) (by omega) | exact vtiles (by simp) | exact vsplice (by simp) (by simp) | refine ceq ?_ ?_ | refine Eq.trans (vsplice (by first | (simp; done) | (simp; omega)) (by first | (simp; done) | (simp; omega))) ?_)), ?_⟩ | refine .inl ⟨_, _, rfl, Sat.of_eq (toAges_sat a) (by repeat (first | rfl | exact vfull (by first | (simp [splice]; done) | (simp [splice]; omega)) | exact rfull (by first | (simp [splice]; done) | (simp [splice]; omega)) | exact vplace (by simp; done) (by omega) | exact vrow (by simp; done) (by omega) | exact vtiles (by simp) | exact vsplice (by simp) (by simp) | refine ceq ?_ ?_ | refine Eq.trans (vsplice (by first | (simp; done) | (simp; omega)) (by first | (simp; done) | (simp; omega))) ?_)), ?_⟩
  conv => whnf
  repeat (first | (refine And.intro (by first  | exact rfl | decide | omega | (simp [splice]; done) | (constructor <;> omega) | (simp [splice]; omega)) ?_; conv => whnf) | (refine optK_of (intA (by omega)) ?_; conv => whnf) | (refine optK_of (intA' (by omega)) ?_; conv => whnf) | (refine optK_of (markIA (by omega)) ?_; conv => whnf) | (refine optK_of (gridN (by omega) (by omega)) ?_; conv => whnf) | (refine optK_of (placeA (by omega)) ?_; conv => whnf) | (refine optK_of (placeB (by omega)) ?_; conv => whnf) | (refine optK_of (placeA' (by omega)) ?_; conv => whnf) | (refine optK_of (placeB' (by omega)) ?_; conv => whnf))
  first | refine ⟨_, _, rfl, Sat.of_eq (s2) (by repeat (first | rfl | exact vfull (by first | (simp [splice]; done) | (simp [splice]; omega)) | exact rfull (by first | (simp [splice]; done) | (simp [splice]; omega)) | exact vplace (by simp; done) (by omega) | exact vrow (by simp; done) (by omega) | exact vtiles (by simp) | exact vsplice (by simp) (by simp) | refine ceq ?_ ?_ | refine Eq.trans (vsplice (by first | (simp; done) | (simp; omega)) (by first | (simp; done) | (simp; omega))) ?_)), ?_⟩ | refine .inl ⟨_, _, rfl, Sat.of_eq (s2) (by repeat (first | rfl | exact vfull (by first | (simp [splice]; done) | (simp [splice]; omega)) | exact rfull (by first | (simp [splice]; done) | (simp [splice]; omega)) | exact vplace (by simp; done) (by omega) | exact vrow (by simp; done) (by omega) | exact vtiles (by simp) | exact vsplice (by simp) (by simp) | refine ceq ?_ ?_ | refine Eq.trans (vsplice (by first | (simp; done) | (simp; omega)) (by first | (simp; done) | (simp; omega))) ?_)), ?_⟩
  conv => whnf
  repeat (first | (refine And.intro (by first  | exact rfl | decide | omega | (simp [splice]; done) | (constructor <;> omega) | (simp [splice]; omega)) ?_; conv => whnf) | (refine optK_of (intA (by omega)) ?_; conv => whnf) | (refine optK_of (intA' (by omega)) ?_; conv => whnf) | (refine optK_of (markIA (by omega)) ?_; conv => whnf) | (refine optK_of (gridN (by omega) (by omega)) ?_; conv => whnf) | (refine optK_of (placeA (by omega)) ?_; conv => whnf) | (refine optK_of (placeB (by omega)) ?_; conv => whnf) | (refine optK_of (placeA' (by omega)) ?_; conv => whnf) | (refine optK_of (placeB' (by omega)) ?_; conv => whnf))
  first | refine ⟨_, _, rfl, Sat.of_eq (eqInt64S_same xs (by omega) false false) (by repeat (first | rfl | exact vfull (by first | (simp [splice]; done) | (simp [splice]; omega)) | exact rfull (by first | (simp [splice]; done) | (simp [splice]; omega)) | exact vplace (by simp; done) (by omega) | exact vrow (by simp; done) (by omega) | exact vtiles (by simp) | exact vsplice (by simp) (by simp) | refine ceq ?_ ?_ | refine Eq.trans (vsplice (by first | (simp; done) | (simp; omega)) (by first | (simp; done) | (simp; omega))) ?_)), ?_⟩ | refine .inl ⟨_, _, rfl, Sat.of_eq (eqInt64S_same xs (by omega) false false) (by repeat (first | rfl | exact vfull (by first | (simp [splice]; done) | (simp [splice]; omega)) | exact rfull (by first | (simp [splice]; done) | (simp [splice]; omega)) | exact vplace (by simp; done) (by omega) | exact vrow (by simp; done) (by omega) | exact vtiles (by simp) | exact vsplice (by simp) (by simp) | refine ceq ?_ ?_ | refine Eq.trans (vsplice (by first | (simp; done) | (simp; omega)) (by first | (simp; done) | (simp; omega))) ?_)), ?_⟩
  conv => whnf
  repeat (first | (refine And.intro (by first  | exact rfl | decide | omega | (simp [splice]; done) | (constructor <;> omega) | (simp [splice]; omega)) ?_; conv => whnf) | (refine optK_of (intA (by omega)) ?_; conv => whnf) | (refine optK_of (intA' (by omega)) ?_; conv => whnf) | (refine optK_of (markIA (by omega)) ?_; conv => whnf) | (refine optK_of (gridN (by omega) (by omega)) ?_; conv => whnf) | (refine optK_of (placeA (by omega)) ?_; conv => whnf) | (refine optK_of (placeB (by omega)) ?_; conv => whnf) | (refine optK_of (placeA' (by omega)) ?_; conv => whnf) | (refine optK_of (placeB' (by omega)) ?_; conv => whnf))
  rw [show (x != x) = false by simp]
  conv => whnf
  repeat (first | (refine And.intro (by first  | exact rfl | decide | omega | (simp [splice]; done) | (constructor <;> omega) | (simp [splice]; omega)) ?_; conv => whnf) | (refine optK_of (intA (by omega)) ?_; conv => whnf) | (refine optK_of (intA' (by omega)) ?_; conv => whnf) | (refine optK_of (markIA (by omega)) ?_; conv => whnf) | (refine optK_of (gridN (by omega) (by omega)) ?_; conv => whnf) | (refine optK_of (placeA (by omega)) ?_; conv => whnf) | (refine optK_of (placeB (by omega)) ?_; conv => whnf) | (refine optK_of (placeA' (by omega)) ?_; conv => whnf) | (refine optK_of (placeB' (by omega)) ?_; conv => whnf))
  first | refine ⟨_, _, rfl, Sat.of_eq (heldInt64S_sat xs.length (by omega) 1 (by omega) false) (by repeat (first | rfl | exact vfull (by first | (simp [splice]; done) | (simp [splice]; omega)) | exact rfull (by first | (simp [splice]; done) | (simp [splice]; omega)) | exact vplace (by simp; done) (by omega) | exact vrow (by simp; done) (by omega) | exact vtiles (by simp) | exact vsplice (by simp) (by simp) | refine ceq ?_ ?_ | refine Eq.trans (vsplice (by first | (simp; done) | (simp; omega)) (by first | (simp; done) | (simp; omega))) ?_)), ?_⟩ | refine .inl ⟨_, _, rfl, Sat.of_eq (heldInt64S_sat xs.length (by omega) 1 (by omega) false) (by repeat (first | rfl | exact vfull (by first | (simp [splice]; done) | (simp [splice]; omega)) | exact rfull (by first | (simp [splice]; done) | (simp [splice]; omega)) | exact vplace (by simp; done) (by omega) | exact vrow (by simp; done) (by omega) | exact vtiles (by simp) | exact vsplice (by simp) (by simp) | refine ceq ?_ ?_ | refine Eq.trans (vsplice (by first | (simp; done) | (simp; omega)) (by first | (simp; done) | (simp; omega))) ?_)), ?_⟩
  conv => whnf
  repeat (first | (refine And.intro (by first  | exact rfl | decide | omega | (simp [splice]; done) | (constructor <;> omega) | (simp [splice]; omega)) ?_; conv => whnf) | (refine optK_of (intA (by omega)) ?_; conv => whnf) | (refine optK_of (intA' (by omega)) ?_; conv => whnf) | (refine optK_of (markIA (by omega)) ?_; conv => whnf) | (refine optK_of (gridN (by omega) (by omega)) ?_; conv => whnf) | (refine optK_of (placeA (by omega)) ?_; conv => whnf) | (refine optK_of (placeB (by omega)) ?_; conv => whnf) | (refine optK_of (placeA' (by omega)) ?_; conv => whnf) | (refine optK_of (placeB' (by omega)) ?_; conv => whnf))
  rw [show (1 + (xs.length : Int) != 1 + (xs.length : Int)) = false by simp]
  conv => whnf
  repeat (first | (refine And.intro (by first  | exact rfl | decide | omega | (simp [splice]; done) | (constructor <;> omega) | (simp [splice]; omega)) ?_; conv => whnf) | (refine optK_of (intA (by omega)) ?_; conv => whnf) | (refine optK_of (intA' (by omega)) ?_; conv => whnf) | (refine optK_of (markIA (by omega)) ?_; conv => whnf) | (refine optK_of (gridN (by omega) (by omega)) ?_; conv => whnf) | (refine optK_of (placeA (by omega)) ?_; conv => whnf) | (refine optK_of (placeB (by omega)) ?_; conv => whnf) | (refine optK_of (placeA' (by omega)) ?_; conv => whnf) | (refine optK_of (placeB' (by omega)) ?_; conv => whnf))
  first | refine ⟨rfl, _, rfl, ?_⟩ | refine ⟨_, rfl, ?_⟩
  rfl
end Go.Proofs.Ytndlknhakdadjaa
