import Derived.Test.YtecjkbgepbefcaaP2
import Derived.Test.YtecjkbgepbefcaaP1
set_option linter.unusedVariables false
set_option linter.unusedSimpArgs false
/- Contracts: the tile that is best made whole; tiles that are made whole until no more than so much drips; the law. -/
set_option linter.unusedVariables false
set_option linter.unusedSimpArgs false
namespace Go.V
/- Words for the walks of this text: their default arguments are tried where they are used. -/
theorem go_E4 {P Q : Prop} (k : Q) (h : P := by first | exact Nat.le_of_ble_eq_true rfl | exact rfl | decide | omega | (simp [splice]; done) | (constructor <;> omega) | (simp [splice]; omega)) : P ∧ Q := ⟨h, k⟩
theorem lk_E4 {α : Type} {o : Option α} {K : α → Prop} {x : α} (k : K x) (h : o = some x := by first | exact raiA (by omega) | exact raiA' (by omega) | exact watA (by omega) | exact watA' (by omega) | exact dripA (by omega) (by omega) | exact roofN (by omega) (by omega) | exact gridN (by omega) (by omega) | exact intA (by omega) | exact intA' (by omega) | exact placeA (by omega) | exact placeB (by omega) | exact placeA' (by omega) | exact placeB' (by omega)) : optK o K := optK_of h k
theorem sc_E4 {P : Program} {g : FuncId} {args args' : List D} {res : D} (h : Sat P g args res) (e : args' = args := by repeat (first | rfl | exact vfull (by first | (simp [splice]; done) | (simp [splice]; omega)) | exact rfull (by first | (simp [splice]; done) | (simp [splice]; omega)) | exact vfnR | exact vrefput (by simp) (by simp) hc hk | exact vdrow (by simp; done) (by omega) | exact vrows (by omega) | exact vplace (by simp; done) (by omega) | exact vrow (by simp; done) (by omega) | exact vtiles (by simp) | exact vsplice (by simp) (by simp) | refine ceq ?_ ?_ | refine Eq.trans (vsplice (by first | (simp; done) | (simp; omega)) (by first | (simp; done) | (simp; omega))) ?_)) : Sat P g args' res := Sat.of_eq h e
theorem leaf_E4 {P : Prop} (h : P := by first | rfl | exact succ8 (by omega) | exact succ64 (by omega) | exact CapOk.fn (by assumption) _ _ | exact vintS (by omega) | exact vintS (by rw [w64 (by omega) (by omega)]; omega) | exact vintS (by rw [w8 (by omega) (by omega)]; omega) | exact vslcS (by omega) | exact vslcS (by simp)) : P := h
theorem hold_E4 {P : Prop} (h : P := by (repeat' (first | exact trivial | apply And.intro)) <;> (first | rfl | exact succ8 (by omega) | exact succ64 (by omega) | exact CapOk.fn (by assumption) _ _ | exact vintS (by omega) | exact vintS (by rw [w64 (by omega) (by omega)]; omega) | exact vintS (by rw [w8 (by omega) (by omega)]; omega) | exact vslcS (by omega) | exact vslcS (by simp))) : P := h
theorem okt_E4 {P : Prop} (h : P := by first | omega | (dsimp only; omega) | ((repeat' apply And.intro) <;> omega) | (dsimp only; (repeat' apply And.intro) <;> omega) | trivial) : P := h
end Go.V
namespace Go.V
/-- A best place, as slots hold it. -/
def bsP (o : Option Pl) : Pl := o.getD (0, 0)
def bsV (a : Nat → Nat → Int) (o : Option Pl) : Int := match o with | some q => a q.1 q.2 | none => 0
theorem vplaceS {ps : List Pl} {i o : Nat} (ho : o = i * 2) (h : i < ps.length) {xs : List Value} (hx : xs.length = 2) : some (D.v (.agg ⟨splice xs 0 (((placesC ps).drop o).take 2)⟩)) = some (plD (nthP ps i)) := by
  rw [place_load ho h, splice_all (by simpa using hx)]; rfl
end Go.V
namespace Go.Proofs.Ytecjkbgepbefcaa
open Go.V
theorem maxFuncG_sat {g : Nat} {caps : List D} {a : Nat → Nat → Int} (ps : List Pl) (hl : 1 ≤ ps.length ∧ ps.length ≤ 72) (hps : AllIn ps) (hc : CapOk caps) (m : Bool)
    (hg : ∀ q q' : Pl, q.1 < 8 ∧ q.2 < 8 → q'.1 < 8 ∧ q'.2 < 8 → Sat Try.prog g (plD q :: plD q' :: caps) (.v (.int .i64 (cmpI (a q.1 q.2) (a q'.1 q'.2))))) :
    Sat Try.prog 102 [placesD m ps, .fn (.func g) [] caps] (plD (bestL a ps (ps.length - 1))) := by
  refine sat_of_wp hMix tOk Try.func102 rfl rfl Try.ntmps102 rfl rfl Try.results102 (by kernel_rfl) ?_
  conv => whnf
  repeat (first | (refine go_E4 ?_; conv => whnf) | (refine lk_E4 ?_; conv => whnf))
  rw [show decide ((ps.length : Int) < 1) = false by simp; omega]
  conv => whnf
  repeat (first | (refine go_E4 ?_; conv => whnf) | (refine lk_E4 ?_; conv => whnf))
  refine loop_rule (α := Nat) (fun i => [(0, placesD m ps), (1, .fn (.func g) [] caps), (4, .ptr (4, 0, 0) 0), (5, .ptr (5, 0, 0) 0), (6, .v (.int .i64 ((i + 1 : Nat) : Int)))]) (fun i => [((4, 0, 0), .v (.agg ⟨[.int .i8 0, .int .i8 0]⟩)), ((5, 0, 0), plD (bestL a ps i))]) (fun i => i + 1 ≤ ps.length) (fun i => ps.length - i) (0) ?_ (sim_of (rn := [((4, 0, 0), (4, 0, 0)), ((5, 0, 0), (5, 0, 0))]) rfl ?_ ?_) ?_
  · exact okt_E4
  · exact hold_E4
  · ((repeat' (first | exact trivial | apply And.intro)) <;> ((first | refine ⟨_, _, rfl, rfl, ?_⟩ ); first | rfl | (exact vplaceS (i := 0) (by simp) (by omega) (by simp))))
  intro i hi
  have q2 := bestL_in (a := a) hps i (by omega)
  conv => whnf
  repeat (first | (refine go_E4 ?_; conv => whnf) | (refine lk_E4 ?_; conv => whnf))
  cases h4 : decide (((i + 1 : Nat) : Int) < (ps.length : Int))
  · have h8 : i = ps.length - 1 := by simp at h4; omega
    subst h8
    conv => whnf
    repeat (first | (refine go_E4 ?_; conv => whnf) | (refine lk_E4 ?_; conv => whnf))
    first | refine ⟨rfl, _, rfl, ?_⟩ | refine ⟨_, rfl, ?_⟩
    rfl
  have hlt : i + 1 < ps.length := by simp at h4; omega
  have q1 := hps (i + 1) hlt
  conv => whnf
  repeat (first | (refine go_E4 ?_; conv => whnf) | (refine lk_E4 ?_; conv => whnf))
  first | refine ⟨_, _, CapOk.two (by assumption) rfl rfl, sc_E4 (hg (nthP ps (i + 1)) (bestL a ps i) q1 q2), ?_⟩ | refine .inl ⟨_, _, CapOk.two (by assumption) rfl rfl, sc_E4 (hg (nthP ps (i + 1)) (bestL a ps i) q1 q2), ?_⟩
  conv => whnf
  repeat (first | (refine go_E4 ?_; conv => whnf) | (refine lk_E4 ?_; conv => whnf))
  rw [cmpI_pos]
  cases h5 : decide (a (nthP ps (i + 1)).1 (nthP ps (i + 1)).2 > a (bestL a ps i).1 (bestL a ps i).2)
  · have hb : bestL a ps (i + 1) = bestL a ps i := by
      have : ¬ a (nthP ps (i + 1)).1 (nthP ps (i + 1)).2 > a (bestL a ps i).1 (bestL a ps i).2 := by simpa using h5
      simp only [bestL, if_neg this]
    conv => whnf
    repeat (first | (refine go_E4 ?_; conv => whnf) | (refine lk_E4 ?_; conv => whnf))
    refine ⟨i + 1, ?_, ?_, sim_of (rn := [((4, 0, 0), (4, 0, 0)), ((5, 0, 0), (5, 0, 0))]) rfl ?_ ?_⟩
    · (dsimp only; omega)
    · exact okt_E4
    · exact hold_E4
    · ((repeat' (first | exact trivial | apply And.intro)) <;> ((first | refine ⟨_, _, rfl, rfl, ?_⟩ ); first | rfl | ((rw [hb]; rfl))))
  · have hb : bestL a ps (i + 1) = nthP ps (i + 1) := by
      have : a (nthP ps (i + 1)).1 (nthP ps (i + 1)).2 > a (bestL a ps i).1 (bestL a ps i).2 := by simpa using h5
      simp only [bestL, if_pos this]
    conv => whnf
    repeat (first | (refine go_E4 ?_; conv => whnf) | (refine lk_E4 ?_; conv => whnf))
    refine ⟨i + 1, ?_, ?_, sim_of (rn := [((4, 0, 0), (4, 0, 0)), ((5, 0, 0), (5, 0, 0))]) rfl ?_ ?_⟩
    · (dsimp only; omega)
    · exact okt_E4
    · exact hold_E4
    · ((repeat' (first | exact trivial | apply And.intro)) <;> ((first | refine ⟨_, _, rfl, rfl, ?_⟩ ); first | rfl | ((rw [hb]; exact vplaceS (by simp) (by omega) (by simp)))))
theorem bestSave1_sat (r : Roof) (hr : r.In) (hb : Rb r) (w : Nat → Int) (hw : W1 w) (q q' : Pl) (hq : q.1 < 8 ∧ q.2 < 8) (hq' : q'.1 < 8 ∧ q'.2 < 8) :
    Sat Try.prog 118 [plD q, plD q', .ref false (roofD r) 0, .ref false (raiD w) 0] (.v (.int .i64 (cmpI (svI r w q.1 q.2) (svI r w q'.1 q'.2)))) := by
  refine sat_of_wp hMix tOk Try.func118 rfl rfl Try.ntmps118 rfl rfl Try.results118 (by kernel_rfl) ?_
  conv => whnf
  repeat (first | (refine go_E4 ?_; conv => whnf) | (refine lk_E4 ?_; conv => whnf))
  first | refine ⟨_, _, rfl, sc_E4 (save_sat r hr hb w hw q.1 q.2 hq.1 hq.2), ?_⟩ | refine .inl ⟨_, _, rfl, sc_E4 (save_sat r hr hb w hw q.1 q.2 hq.1 hq.2), ?_⟩
  conv => whnf
  repeat (first | (refine go_E4 ?_; conv => whnf) | (refine lk_E4 ?_; conv => whnf))
  first | refine ⟨_, _, rfl, sc_E4 (save_sat r hr hb w hw q'.1 q'.2 hq'.1 hq'.2), ?_⟩ | refine .inl ⟨_, _, rfl, sc_E4 (save_sat r hr hb w hw q'.1 q'.2 hq'.1 hq'.2), ?_⟩
  conv => whnf
  repeat (first | (refine go_E4 ?_; conv => whnf) | (refine lk_E4 ?_; conv => whnf))
  first | refine ⟨_, _, rfl, sc_E4 (compare_sat _ _), ?_⟩ | refine .inl ⟨_, _, rfl, sc_E4 (compare_sat _ _), ?_⟩
  conv => whnf
  repeat (first | (refine go_E4 ?_; conv => whnf) | (refine lk_E4 ?_; conv => whnf))
  first | refine ⟨rfl, _, rfl, ?_⟩ | refine ⟨_, rfl, ?_⟩
  rfl
theorem bestSave_sat (r : Roof) (hr : r.In) (hb : Rb r) (w : Nat → Int) (hw : W1 w) (hn : 0 < (wrP r).length) : Sat Try.prog 79 [roofD r, raiD w] (plD (bwP r w)) := by
  have hl := allP_len hb (wrB r)
  change (wrP r).length ≤ 64 at hl
  have hin := allP_in hb (wrB r)
  change AllIn (wrP r) at hin
  refine sat_of_wp hMix tOk Try.func79 rfl rfl Try.ntmps79 rfl rfl Try.results79 (by kernel_rfl) ?_
  conv => whnf
  repeat (first | (refine go_E4 ?_; conv => whnf) | (refine lk_E4 ?_; conv => whnf))
  first | refine ⟨_, _, rfl, sc_E4 (wrong_sat r hr hb), ?_⟩ | refine .inl ⟨_, _, rfl, sc_E4 (wrong_sat r hr hb), ?_⟩
  conv => whnf
  repeat (first | (refine go_E4 ?_; conv => whnf) | (refine lk_E4 ?_; conv => whnf))
  first | refine ⟨_, _, rfl, sc_E4 (maxFuncG_sat (g := 118) (caps := [.ref false (roofD r) 0, .ref false (raiD w) 0]) (a := svI r w) (wrP r) (by omega) hin ⟨fun _ => rfl, fun _ => rfl⟩ false (bestSave1_sat r hr hb w hw)), ?_⟩ | refine .inl ⟨_, _, rfl, sc_E4 (maxFuncG_sat (g := 118) (caps := [.ref false (roofD r) 0, .ref false (raiD w) 0]) (a := svI r w) (wrP r) (by omega) hin ⟨fun _ => rfl, fun _ => rfl⟩ false (bestSave1_sat r hr hb w hw)), ?_⟩
  conv => whnf
  repeat (first | (refine go_E4 ?_; conv => whnf) | (refine lk_E4 ?_; conv => whnf))
  first | refine ⟨rfl, _, rfl, ?_⟩ | refine ⟨_, rfl, ?_⟩
  rfl
theorem l02Best_sat (r : Roof) (hr : r.In) (hb : Rb r) (w : Nat → Int) (hw : W1 w) : Sat Try.prog 81 [.ref false (roofD r) 0, .ref false (raiD w) 0] (.tup [plD (bsP (bsO (svI r w) (wrP r))), .v (.int .i64 (bsV (svI r w) (bsO (svI r w) (wrP r)))), .v (.bool (bsO (svI r w) (wrP r)).isSome)]) := by
  have hall : Sat Try.prog 58 [.ref false (roofD r) 0] (placesD true (gridP r.w.toNat r.h.toNat)) := by rw [← allP_true]; exact l01All_sat r hr hb
  have hl := gridP_size hb
  have hps := gridP_in (w := r.w.toNat) (h := r.h.toNat) (by omega) (by omega)
  have hres : wrP r = selP (wrB r) (gridP r.w.toNat r.h.toNat) (gridP r.w.toNat r.h.toNat).length := by rw [selP_all]; exact allP_eq r _
  rw [hres]
  generalize gridP r.w.toNat r.h.toNat = ps at *
  refine sat_of_wp hMix tOk Try.func81 rfl rfl Try.ntmps81 rfl rfl Try.results81 (by kernel_rfl) ?_
  conv => whnf
  repeat (first | (refine go_E4 ?_; conv => whnf) | (refine lk_E4 ?_; conv => whnf))
  first | refine ⟨_, _, rfl, sc_E4 (hall), ?_⟩ | refine .inl ⟨_, _, rfl, sc_E4 (hall), ?_⟩
  conv => whnf
  repeat (first | (refine go_E4 ?_; conv => whnf) | (refine lk_E4 ?_; conv => whnf))
  refine loop_rule (α := Nat) (fun i => [(0, .ref false (roofD r) 0), (1, .ref false (raiD w) 0), (4, .ptr (4, 0, 0) 0), (7, .ptr (7, 0, 0) 0), (8, .v (.int .i64 (bsV (svI r w) (bsO (svI r w) (selP (wrB r) ps i))))), (9, .v (.bool (bsO (svI r w) (selP (wrB r) ps i)).isSome)), (10, .slc true 2 (15, 0, 0) 0 ps.length), (11, .v (.int .i64 i))]) (fun i => [((4, 0, 0), .v (.agg ⟨[.int .i8 0, .int .i8 0]⟩)), ((7, 0, 0), plD (bsP (bsO (svI r w) (selP (wrB r) ps i)))), ((15, 0, 0), .v (.agg ⟨placesC ps⟩))]) (fun i => i ≤ ps.length) (fun i => ps.length - i) (0) ?_ (sim_of (rn := [((4, 0, 0), (4, 0, 0)), ((7, 0, 0), (7, 0, 0)), ((15, 0, 0), (15, 0, 0))]) rfl ?_ ?_) ?_
  · exact okt_E4
  · ((repeat' (first | exact trivial | apply And.intro)) <;> (first | rfl | ((rw [selP_zero]; rfl)) | exact leaf_E4))
  · ((repeat' (first | exact trivial | apply And.intro)) <;> ((first | refine ⟨_, _, rfl, rfl, ?_⟩ ); first | rfl | ((rw [selP_zero]; rfl))))
  intro i hi
  conv => whnf
  repeat (first | (refine go_E4 ?_; conv => whnf) | (refine lk_E4 ?_; conv => whnf))
  cases h : decide ((i : Int) < (ps.length : Int))
  · have hin : i = ps.length := by simp at h; omega
    subst hin
    conv => whnf
    repeat (first | (refine go_E4 ?_; conv => whnf) | (refine lk_E4 ?_; conv => whnf))
    first | refine ⟨rfl, _, rfl, ?_⟩ | refine ⟨_, rfl, ?_⟩
    rfl
  have hin : i < ps.length := by simpa using h
  have hqi := hps i hin
  have hc := hqi.1
  have hk := hqi.2
  conv => whnf
  repeat (first | (refine go_E4 ?_; conv => whnf) | (refine lk_E4 ?_; conv => whnf))
  first | refine ⟨_, _, rfl, sc_E4 (l01At_sat r hr (nthP ps i).1 (nthP ps i).2 hqi.1 hqi.2), ?_⟩ | refine .inl ⟨_, _, rfl, sc_E4 (l01At_sat r hr (nthP ps i).1 (nthP ps i).2 hqi.1 hqi.2), ?_⟩
  conv => whnf
  repeat (first | (refine go_E4 ?_; conv => whnf) | (refine lk_E4 ?_; conv => whnf))
  cases hp : (r.t (nthP ps i).1 (nthP ps i).2 == 0)
  case true =>
    have hw0 : wrB r (nthP ps i).1 (nthP ps i).2 = false := by unfold wrB; simpa using hp
    conv => whnf
    repeat (first | (refine go_E4 ?_; conv => whnf) | (refine lk_E4 ?_; conv => whnf))
    rw [← selP_no hin hw0]
    refine ⟨i + 1, ?_, ?_, sim_of (rn := [((4, 0, 0), (4, 0, 0)), ((7, 0, 0), (7, 0, 0)), ((15, 0, 0), (15, 0, 0))]) rfl ?_ ?_⟩
    · (dsimp only; omega)
    · exact okt_E4
    · exact hold_E4
    · ((repeat' (first | exact trivial | apply And.intro)) <;> ((first | refine ⟨_, _, rfl, rfl, ?_⟩ ); rfl))
  have hw1 : wrB r (nthP ps i).1 (nthP ps i).2 = true := by unfold wrB; simpa using hp
  have hs := bsO_snoc (svI r w) (selP (wrB r) ps i) (nthP ps i)
  rw [← selP_yes hin hw1] at hs
  conv => whnf
  repeat (first | (refine go_E4 ?_; conv => whnf) | (refine lk_E4 ?_; conv => whnf))
  first | refine ⟨_, _, rfl, sc_E4 (l02Save_sat r hr hb w hw (nthP ps i).1 (nthP ps i).2 hqi.1 hqi.2), ?_⟩ | refine .inl ⟨_, _, rfl, sc_E4 (l02Save_sat r hr hb w hw (nthP ps i).1 (nthP ps i).2 hqi.1 hqi.2), ?_⟩
  conv => whnf
  repeat (first | (refine go_E4 ?_; conv => whnf) | (refine lk_E4 ?_; conv => whnf))
  cases ho : bsO (svI r w) (selP (wrB r) ps i) with
  | none =>
    rw [ho] at hs
    conv => whnf
    repeat (first | (refine go_E4 ?_; conv => whnf) | (refine lk_E4 ?_; conv => whnf))
    refine ⟨i + 1, ?_, ?_, sim_of (rn := [((4, 0, 0), (4, 0, 0)), ((7, 0, 0), (7, 0, 0)), ((15, 0, 0), (15, 0, 0))]) rfl ?_ ?_⟩
    · (dsimp only; omega)
    · exact okt_E4
    · ((repeat' (first | exact trivial | apply And.intro)) <;> (first | rfl | ((rw [hs]; rfl)) | exact leaf_E4))
    · ((repeat' (first | exact trivial | apply And.intro)) <;> ((first | refine ⟨_, _, rfl, rfl, ?_⟩ ); first | rfl | ((rw [hs]; exact vplaceS (by simp) (by omega) (by simp)))))
  | some m =>
    rw [ho] at hs
    conv => whnf
    repeat (first | (refine go_E4 ?_; conv => whnf) | (refine lk_E4 ?_; conv => whnf))
    cases h5 : decide (svI r w (nthP ps i).1 (nthP ps i).2 > bsV (svI r w) (some m))
    · have h5' : ¬ svI r w (nthP ps i).1 (nthP ps i).2 > svI r w m.1 m.2 := by simpa [bsV] using h5
      dsimp only at hs
      rw [if_neg h5'] at hs
      conv => whnf
      repeat (first | (refine go_E4 ?_; conv => whnf) | (refine lk_E4 ?_; conv => whnf))
      refine ⟨i + 1, ?_, ?_, sim_of (rn := [((4, 0, 0), (4, 0, 0)), ((7, 0, 0), (7, 0, 0)), ((15, 0, 0), (15, 0, 0))]) rfl ?_ ?_⟩
      · (dsimp only; omega)
      · exact okt_E4
      · ((repeat' (first | exact trivial | apply And.intro)) <;> (first | rfl | ((rw [hs]; rfl)) | exact leaf_E4))
      · ((repeat' (first | exact trivial | apply And.intro)) <;> ((first | refine ⟨_, _, rfl, rfl, ?_⟩ ); first | rfl | ((rw [hs]; rfl))))
    · have h5' : svI r w (nthP ps i).1 (nthP ps i).2 > svI r w m.1 m.2 := by simpa [bsV] using h5
      dsimp only at hs
      rw [if_pos h5'] at hs
      conv => whnf
      repeat (first | (refine go_E4 ?_; conv => whnf) | (refine lk_E4 ?_; conv => whnf))
      refine ⟨i + 1, ?_, ?_, sim_of (rn := [((4, 0, 0), (4, 0, 0)), ((7, 0, 0), (7, 0, 0)), ((15, 0, 0), (15, 0, 0))]) rfl ?_ ?_⟩
      · (dsimp only; omega)
      · exact okt_E4
      · ((repeat' (first | exact trivial | apply And.intro)) <;> (first | rfl | ((rw [hs]; rfl)) | exact leaf_E4))
      · ((repeat' (first | exact trivial | apply And.intro)) <;> ((first | refine ⟨_, _, rfl, rfl, ?_⟩ ); first | rfl | ((rw [hs]; exact vplaceS (by simp) (by omega) (by simp)))))
end Go.Proofs.Ytecjkbgepbefcaa
/- Contracts: tiles that are made whole until no more than so much drips, both sides, and the law. -/
set_option linter.unusedVariables false
set_option linter.unusedSimpArgs false
namespace Go.V
/- Words for the walks of this text: their default arguments are tried where they are used. -/
theorem go_E5 {P Q : Prop} (k : Q) (h : P := by first | exact Nat.le_of_ble_eq_true rfl | exact rfl | decide | omega | (simp [splice]; done) | (constructor <;> omega) | (simp [splice]; omega)) : P ∧ Q := ⟨h, k⟩
theorem lk_E5 {α : Type} {o : Option α} {K : α → Prop} {x : α} (k : K x) (h : o = some x := by first | exact raiA (by omega) | exact raiA' (by omega) | exact roofN (by omega) (by omega) | exact gridN (by omega) (by omega) | exact placeA (by omega) | exact placeB (by omega) | exact placeA' (by omega) | exact placeB' (by omega)) : optK o K := optK_of h k
theorem sc_E5 {P : Program} {g : FuncId} {args args' : List D} {res : D} (h : Sat P g args res) (e : args' = args := by repeat (first | rfl | exact vfull (by first | (simp [splice]; done) | (simp [splice]; omega)) | exact rfull (by first | (simp [splice]; done) | (simp [splice]; omega)) | exact vplace (by simp; done) (by omega) | exact vrow (by simp; done) (by omega) | exact vtiles (by simp) | exact vsplice (by simp) (by simp) | refine ceq ?_ ?_ | refine Eq.trans (vsplice (by first | (simp; done) | (simp; omega)) (by first | (simp; done) | (simp; omega))) ?_)) : Sat P g args' res := Sat.of_eq h e
theorem hold_E5 {P : Prop} (h : P := by (repeat' (first | exact trivial | apply And.intro)) <;> (first | rfl | exact succ8 (by omega) | exact succ64 (by omega) | exact CapOk.fn (by assumption) _ _ | exact vintS (by omega) | exact vintS (by rw [w64 (by omega) (by omega)]; omega) | exact vintS (by rw [w8 (by omega) (by omega)]; omega) | exact vslcS (by omega) | exact vslcS (by simp))) : P := h
end Go.V
namespace Go.V
theorem mdX_is {r : Roof} {w : Nat → Int} {b : Int} {n : Nat} (ho : okN r w = true) (hb : 0 ≤ b) (hm : MdOk r w b n) (h : dsI (mdR r w n) w ≤ b) : mdX r w b = mdL r w n := by
  have hk : mdK r w b = 0 := by unfold mdK; rw [if_pos ho, if_pos hb]
  unfold mdX
  rw [if_pos hk, mdN_is (n := n) (by have := hm.le; omega) h hm.no]
theorem mdK_one {r : Roof} {w : Nat → Int} (b : Int) (h : okN r w = false) : mdK r w b = 1 ∧ mdX r w b = [] := by
  have hk : mdK r w b = 1 := by unfold mdK; rw [h]; rfl
  exact ⟨hk, by unfold mdX; rw [if_neg (by omega)]⟩
theorem mdK_two {r : Roof} {w : Nat → Int} {b : Int} (h : okN r w = true) (hb : ¬ 0 ≤ b) : mdK r w b = 2 ∧ mdX r w b = [] := by
  have hk : mdK r w b = 2 := by unfold mdK; rw [if_pos h, if_neg hb]
  exact ⟨hk, by unfold mdX; rw [if_neg (by omega)]⟩
theorem mdK_zero {r : Roof} {w : Nat → Int} {b : Int} (h : okN r w = true) (hb : 0 ≤ b) : mdK r w b = 0 := by unfold mdK; rw [if_pos h, if_pos hb]
def mdV (r : Roof) (w : Nat → Int) (b : Int) : D := .tup [placesD true (mdX r w b), .v (.int .i64 (mdK r w b))]
end Go.V
namespace Go.Proofs.Ytecjkbgepbefcaa
open Go.V
set_option maxRecDepth 8000 in
theorem specMendUntil_sat (r : Roof) (hr : r.In) (w : Nat → Int) (hw : RaiIn w) (b : Int) : Sat Try.prog 38 [roofD r, raiD w, .v (.int .i64 b)] (mdV r w b) := by
  refine sat_of_wp hMix tOk Try.func38 rfl rfl Try.ntmps38 rfl rfl Try.results38 (by kernel_rfl) ?_
  conv => whnf
  repeat (first | (refine go_E5 ?_; conv => whnf) | (refine lk_E5 ?_; conv => whnf))
  first | refine ⟨_, _, rfl, sc_E5 (l02Ok_sat r hr w hw), ?_⟩ | refine .inl ⟨_, _, rfl, sc_E5 (l02Ok_sat r hr w hw), ?_⟩
  conv => whnf
  repeat (first | (refine go_E5 ?_; conv => whnf) | (refine lk_E5 ?_; conv => whnf))
  cases hO : okN r w
  · conv => whnf
    repeat (first | (refine go_E5 ?_; conv => whnf) | (refine lk_E5 ?_; conv => whnf))
    first | refine ⟨rfl, _, rfl, ?_⟩ | refine ⟨_, rfl, ?_⟩
    skip
    unfold mdV
    rw [(mdK_one b hO).1, (mdK_one b hO).2]; rfl
  have hw1 : W1 w := okN_w hO
  have hb := okR_bounds (okN_R hO)
  conv => whnf
  repeat (first | (refine go_E5 ?_; conv => whnf) | (refine lk_E5 ?_; conv => whnf))
  cases h0 : decide (b < 0)
  case true =>
    have h0' : ¬ 0 ≤ b := by have : b < 0 := by simpa using h0
                             omega
    conv => whnf
    repeat (first | (refine go_E5 ?_; conv => whnf) | (refine lk_E5 ?_; conv => whnf))
    first | refine ⟨rfl, _, rfl, ?_⟩ | refine ⟨_, rfl, ?_⟩
    skip
    unfold mdV
    rw [(mdK_two hO h0').1, (mdK_two hO h0').2]; rfl
  have h0' : 0 ≤ b := by simpa using h0
  conv => whnf
  repeat (first | (refine go_E5 ?_; conv => whnf) | (refine lk_E5 ?_; conv => whnf))
  refine loop_rule (α := Nat) (fun n => [(2, .v (.int .i64 b)), (3, .ptr (3, 0, 0) 0), (4, .ptr (4, 0, 0) 0), (8, .slc true 2 (37, 0, 0) 0 (mdL r w n).length)]) (fun n => [((3, 0, 0), roofD (mdR r w n)), ((4, 0, 0), raiD w), ((37, 0, 0), .v (.agg ⟨placesC (mdL r w n)⟩))]) (fun n => MdOk r w b n) (fun n => 65 - n) (0) ?_ (sim_of (rn := [((3, 0, 0), (3, 0, 0)), ((4, 0, 0), (4, 0, 0)), ((37, 0, 0), (18, 0, 0))]) rfl ?_ ?_) ?_
  · exact MdOk.zero hb w b
  · exact hold_E5
  · ((repeat' (first | exact trivial | apply And.intro)) <;> ((first | refine ⟨_, _, rfl, rfl, ?_⟩ ); rfl))
  intro n hn
  have hn64 := hn.le
  have hrn := mdR_in hr w n
  have hbn : Rb (mdR r w n) := by unfold Rb; simpa using hb
  conv => whnf
  repeat (first | (refine go_E5 ?_; conv => whnf) | (refine lk_E5 ?_; conv => whnf))
  first | refine ⟨_, _, rfl, sc_E5 (l02Sum_sat (mdR r w n) hrn hbn w hw1), ?_⟩ | refine .inl ⟨_, _, rfl, sc_E5 (l02Sum_sat (mdR r w n) hrn hbn w hw1), ?_⟩
  conv => whnf
  repeat (first | (refine go_E5 ?_; conv => whnf) | (refine lk_E5 ?_; conv => whnf))
  cases h1 : decide (dsI (mdR r w n) w > b)
  · have h1' : dsI (mdR r w n) w ≤ b := by simpa using h1
    conv => whnf
    repeat (first | (refine go_E5 ?_; conv => whnf) | (refine lk_E5 ?_; conv => whnf))
    first | refine ⟨rfl, _, rfl, ?_⟩ | refine ⟨_, rfl, ?_⟩
    skip
    unfold mdV
    rw [mdX_is hO h0' hn h1', mdK_zero hO h0']; rfl
  have h1' : b < dsI (mdR r w n) w := by simpa using h1
  obtain ⟨hne, hnx⟩ := hn.next hb hw1 h0' h1'
  have hq := bwP_in (r := mdR r w n) (w := w) hbn hne
  have sB : Sat Try.prog 81 [.ref false (roofD (mdR r w n)) 0, .ref false (raiD w) 0] (.tup [plD (bwP (mdR r w n) w), .v (.int .i64 (svI (mdR r w n) w (bwP (mdR r w n) w).1 (bwP (mdR r w n) w).2)), .v (.bool true)]) := by
    have := l02Best_sat (mdR r w n) hrn hbn w hw1
    rw [bsO_best _ _ hne] at this
    exact this
  have eR : mdR r w (n + 1) = putR (mdR r w n) (bwP (mdR r w n) w).1 (bwP (mdR r w n) w).2 0 := rfl
  have eL : mdL r w (n + 1) = mdL r w n ++ [bwP (mdR r w n) w] := rfl
  have hl := mdL_len r w n
  generalize bwP (mdR r w n) w = q at *
  conv => whnf
  repeat (first | (refine go_E5 ?_; conv => whnf) | (refine lk_E5 ?_; conv => whnf))
  first | refine ⟨_, _, rfl, sc_E5 (sB), ?_⟩ | refine .inl ⟨_, _, rfl, sc_E5 (sB), ?_⟩
  conv => whnf
  repeat (first | (refine go_E5 ?_; conv => whnf) | (refine lk_E5 ?_; conv => whnf))
  have setA := roof_set (r := mdR r w n) (c := q.1) (k := q.2) (o := 0 + 3 + (q.1 : Int).toNat * 8 + (q.2 : Int).toNat * 1) (x := 0) (by simp) hq.1 hq.2
  rw [← eR] at setA
  have e2 : placesC (mdL r w n) ++ [.int .i8 q.1, .int .i8 q.2] = placesC (mdL r w (n + 1)) := by rw [eL, placesC_append]; rfl
  have hl2 := mdL_len r w (n + 1)
  refine ⟨n + 1, ?_, ?_, sim_of (rn := [((3, 0, 0), (3, 0, 0)), ((4, 0, 0), (4, 0, 0)), ((37, 0, 0), (37, 1, 0))]) rfl ?_ ?_⟩
  · (dsimp only; omega)
  · exact hnx
  · exact hold_E5
  · ((repeat' (first | exact trivial | apply And.intro)) <;> ((first | refine ⟨_, _, rfl, rfl, ?_⟩ ); first | rfl | (first | exact cset setA | exact cset e2)))
set_option maxRecDepth 8000 in
theorem mendUntil_sat (r : Roof) (hr : r.In) (w : Nat → Int) (hw : RaiIn w) (b : Int) : Sat Try.prog 37 [roofD r, raiD w, .v (.int .i64 b)] (mdV r w b) := by
  unfold mdV
  refine satN_of_wp hMix tOk Try.func37 rfl rfl Try.ntmps37 rfl rfl Try.results37 (by kernel_rfl) ?_
  conv => whnf
  repeat (first | (refine go_E5 ?_; conv => whnf) | (refine lk_E5 ?_; conv => whnf))
  first | refine ⟨_, _, rfl, sc_E5 (rainCode_sat r hr w hw _), ?_⟩ | refine .inl ⟨_, _, rfl, sc_E5 (rainCode_sat r hr w hw _), ?_⟩
  conv => whnf
  repeat (first | (refine go_E5 ?_; conv => whnf) | (refine lk_E5 ?_; conv => whnf))
  cases hO : okN r w
  · rw [show rnK r w (decide (b ≥ 0)) = 1 by unfold rnK; rw [hO]; rfl]
    rw [(mdK_one b hO).1, (mdK_one b hO).2]
    conv => whnf
    repeat (first | (refine go_E5 ?_; conv => whnf) | (refine lk_E5 ?_; conv => whnf))
    first | refine ⟨rfl, _, rfl, [_, _], rfl, ?_, rfl⟩ | refine ⟨_, rfl, [_, _], rfl, ?_, rfl⟩
    ((repeat' (first | exact trivial | apply And.intro)) <;> first | exact .inl rfl | exact .inr ⟨rfl, rfl⟩)
  have hw1 : W1 w := okN_w hO
  have hb := okR_bounds (okN_R hO)
  cases h0 : decide (b ≥ 0)
  · have h0' : ¬ 0 ≤ b := by simpa using h0
    rw [show rnK r w false = 2 by unfold rnK; rw [hO]; rfl]
    rw [(mdK_two hO h0').1, (mdK_two hO h0').2]
    conv => whnf
    repeat (first | (refine go_E5 ?_; conv => whnf) | (refine lk_E5 ?_; conv => whnf))
    first | refine ⟨rfl, _, rfl, [_, _], rfl, ?_, rfl⟩ | refine ⟨_, rfl, [_, _], rfl, ?_, rfl⟩
    ((repeat' (first | exact trivial | apply And.intro)) <;> first | exact .inl rfl | exact .inr ⟨rfl, rfl⟩)
  have h0' : 0 ≤ b := by simpa using h0
  rw [show rnK r w true = 0 by unfold rnK; rw [hO]; rfl]
  conv => whnf
  repeat (first | (refine go_E5 ?_; conv => whnf) | (refine lk_E5 ?_; conv => whnf))
  refine loop_rule (α := Nat) (fun n => [(2, .v (.int .i64 b)), (3, .ptr (3, 0, 0) 0), (4, .ptr (4, 0, 0) 0), (9, .slc true 2 (30, 0, 0) 0 (mdL r w n).length)]) (fun n => [((3, 0, 0), roofD (mdR r w n)), ((4, 0, 0), raiD w), ((30, 0, 0), .v (.agg ⟨placesC (mdL r w n)⟩))]) (fun n => MdOk r w b n) (fun n => 65 - n) (0) ?_ (sim_of (rn := [((3, 0, 0), (3, 0, 0)), ((4, 0, 0), (4, 0, 0)), ((30, 0, 0), nilId)]) rfl ?_ ?_) ?_
  · exact MdOk.zero hb w b
  · exact hold_E5
  · ((repeat' (first | exact trivial | apply And.intro)) <;> ((first | refine ⟨_, _, rfl, rfl, ?_⟩ ); rfl))
  intro n hn
  have hn64 := hn.le
  have hrn := mdR_in hr w n
  have hbn : Rb (mdR r w n) := by unfold Rb; simpa using hb
  conv => whnf
  repeat (first | (refine go_E5 ?_; conv => whnf) | (refine lk_E5 ?_; conv => whnf))
  first | refine ⟨_, _, rfl, sc_E5 (dripSum_sat (mdR r w n) hrn hbn w hw1), ?_⟩ | refine .inl ⟨_, _, rfl, sc_E5 (dripSum_sat (mdR r w n) hrn hbn w hw1), ?_⟩
  conv => whnf
  repeat (first | (refine go_E5 ?_; conv => whnf) | (refine lk_E5 ?_; conv => whnf))
  cases h1 : decide (dsI (mdR r w n) w > b)
  · have h1' : dsI (mdR r w n) w ≤ b := by simpa using h1
    rw [mdX_is hO h0' hn h1', mdK_zero hO h0']
    conv => whnf
    repeat (first | (refine go_E5 ?_; conv => whnf) | (refine lk_E5 ?_; conv => whnf))
    first | refine ⟨rfl, _, rfl, [_, _], rfl, ?_, rfl⟩ | refine ⟨_, rfl, [_, _], rfl, ?_, rfl⟩
    ((repeat' (first | exact trivial | apply And.intro)) <;> first | exact .inl rfl | exact .inr ⟨rfl, rfl⟩)
  have h1' : b < dsI (mdR r w n) w := by simpa using h1
  obtain ⟨hne, hnx⟩ := hn.next hb hw1 h0' h1'
  have hq := bwP_in (r := mdR r w n) (w := w) hbn hne
  have sB := bestSave_sat (mdR r w n) hrn hbn w hw1 hne
  have eR : mdR r w (n + 1) = putR (mdR r w n) (bwP (mdR r w n) w).1 (bwP (mdR r w n) w).2 0 := rfl
  have eL : mdL r w (n + 1) = mdL r w n ++ [bwP (mdR r w n) w] := rfl
  have hl := mdL_len r w n
  generalize bwP (mdR r w n) w = q at *
  conv => whnf
  repeat (first | (refine go_E5 ?_; conv => whnf) | (refine lk_E5 ?_; conv => whnf))
  first | refine ⟨_, _, rfl, sc_E5 (sB), ?_⟩ | refine .inl ⟨_, _, rfl, sc_E5 (sB), ?_⟩
  conv => whnf
  repeat (first | (refine go_E5 ?_; conv => whnf) | (refine lk_E5 ?_; conv => whnf))
  first | refine ⟨_, _, rfl, sc_E5 (with_sat (mdR r w n) q.1 q.2 hq.1 hq.2 0 (by omega)), ?_⟩ | refine .inl ⟨_, _, rfl, sc_E5 (with_sat (mdR r w n) q.1 q.2 hq.1 hq.2 0 (by omega)), ?_⟩
  conv => whnf
  repeat (first | (refine go_E5 ?_; conv => whnf) | (refine lk_E5 ?_; conv => whnf))
  rw [← eR]
  have e2 : placesC (mdL r w n) ++ [.int .i8 q.1, .int .i8 q.2] = placesC (mdL r w (n + 1)) := by rw [eL, placesC_append]; rfl
  have hl2 := mdL_len r w (n + 1)
  refine ⟨n + 1, ?_, ?_, sim_of (rn := [((3, 0, 0), (3, 0, 0)), ((4, 0, 0), (4, 0, 0)), ((30, 0, 0), (30, 1, 0))]) rfl ?_ ?_⟩
  · (dsimp only; omega)
  · exact hnx
  · exact hold_E5
  · ((repeat' (first | exact trivial | apply And.intro)) <;> ((first | refine ⟨_, _, rfl, rfl, ?_⟩ ); first | rfl | (first | exact csplice (by simp) | exact cset e2)))
end Go.Proofs.Ytecjkbgepbefcaa
/- Plain words: lists of things of a fixed number of cells; lists of roofs. -/
set_option linter.unusedVariables false
set_option linter.unusedSimpArgs false
namespace Go.V
section
variable {α : Type} {f : α → List Value} {n : Nat}
theorem fm_len (hf : ∀ x, (f x).length = n) : ∀ l : List α, (l.flatMap f).length = l.length * n
  | [] => by simp
  | x :: l => by rw [List.flatMap_cons, List.length_append, hf, fm_len hf l, List.length_cons, Nat.succ_mul]; omega
end
@[irreducible] def roofsC (rs : List Roof) : List Value := rs.flatMap roofC
theorem roofsC_def (rs : List Roof) : roofsC rs = rs.flatMap roofC := by unfold roofsC; rfl
@[simp] theorem roofsC_len (rs : List Roof) : (roofsC rs).length = rs.length * 67 := by rw [roofsC_def, fm_len roofC_len]
/-- What a pointer into a list of cells leads to, told as cells of its own. -/
theorem Rep.refSub {w : World} {base : Nat} {loc : Loc} {m : Bool} {xs ys : List Value} {off n : Nat} {y : Value} (h : Rep w base loc (.ref m (.v (.agg ⟨xs⟩)) off) y) (hn : (xs.drop off).take n = ys) (hl : ys.length = n) (hpos : 0 < n) :
    Rep w base loc (.ref m (.v (.agg ⟨ys⟩)) 0) y := by
  simp only [Rep] at h ⊢
  obtain ⟨b, o, zs, rfl, hat, hav, hm, hz, hfl⟩ := h
  cases hz
  refine ⟨b, o + off, ys, rfl, ?_, hav, hm, rfl, ?_⟩
  · obtain ⟨k, e, fr, h1, h2, h3⟩ := hat
    have hle : off + n ≤ xs.length := by
      have := congrArg List.length hn
      simp at this
      omega
    refine ⟨k, e, fr, h1, by omega, ?_⟩
    have : ((k.toList.drop o).take xs.length).drop off = xs.drop off := by rw [h3]
    rw [hl, ← hn, ← this, List.drop_take, List.take_take, List.drop_drop, show min n (xs.length - off) = n by omega]
  · simp only [Flat, List.all_eq_true] at hfl ⊢
    intro x hx
    rw [← hn] at hx
    exact hfl x (List.mem_of_mem_drop (List.mem_of_mem_take hx))
theorem Sat.sub {P : Program} {g : FuncId} {m : Bool} {xs ys : List Value} {off n : Nat} {rest : List D} {res : D} (h : Sat P g (.ref m (.v (.agg ⟨ys⟩)) 0 :: rest) res) (hn : (xs.drop off).take n = ys) (hl : ys.length = n) (hpos : 0 < n) :
    Sat P g (.ref m (.v (.agg ⟨xs⟩)) off :: rest) res := by
  refine ⟨h.1, fun w vs hr => h.2 w vs ?_⟩
  simp only [RepL] at hr ⊢
  obtain ⟨y, yss, rfl, h1, h2⟩ := hr
  exact ⟨y, yss, rfl, h1.refSub hn hl hpos, h2⟩
end Go.V
/- Contracts: what the laws do with lists of roofs; roofs that are all as told. -/
set_option linter.unusedVariables false
set_option linter.unusedSimpArgs false
namespace Go.V
def idxX {α : Type} (p : α → Bool) (d : α) (l : List α) : Int := match (List.range l.length).find? (fun i => p (l.getD i d)) with | some i => (i : Int) | none => -1
end Go.V
namespace Go.Proofs.Ytecjkbgepbefcaa
open Go.V
end Go.Proofs.Ytecjkbgepbefcaa
/- Contracts: roofs that are all as told; whether roofs might be. -/
set_option linter.unusedVariables false
set_option linter.unusedSimpArgs false
namespace Go.V
end Go.V
namespace Go.Proofs.Ytecjkbgepbefcaa
open Go.V
end Go.Proofs.Ytecjkbgepbefcaa
/- Contracts: numbers for roofs that drip alike, both sides. -/
set_option linter.unusedVariables false
set_option linter.unusedSimpArgs false
namespace Go.V
/-- Whether two tables are one. -/
def eqD (f g : Nat → Nat → Int) : Bool := (List.range 136).all fun k => f (k / 17) (k % 17) == g (k / 17) (k % 17)
abbrev Tb := Nat → Nat → Int
def zT : Tb := fun _ _ => 0
@[irreducible] def drsC (ds : List Tb) : List Value := ds.flatMap dripC
theorem drsC_def (ds : List Tb) : drsC ds = ds.flatMap dripC := by unfold drsC; rfl
@[simp] theorem drsC_len (ds : List Tb) : (drsC ds).length = ds.length * 136 := by rw [drsC_def, fm_len dripC_len]
/-- Where a table is met first. -/
def gIx (ds : List Tb) (f : Tb) : Int := idxX (eqD f) zT ds
def gNo (ds : List Tb) (f : Tb) : Nat := if gIx ds f < 0 then ds.length else (gIx ds f).toNat
/-- The tables that were met, and the numbers of the first i roofs. -/
def snL (F : Nat → Tb) : Nat → List Tb
  | 0 => []
  | i + 1 => if gIx (snL F i) (F i) < 0 then snL F i ++ [F i] else snL F i
def goL (F : Nat → Tb) (n : Nat) : List Int := qL (fun i => (gNo (snL F i) (F i) : Nat)) n
@[simp] theorem goL_len (F : Nat → Tb) (n : Nat) : (goL F n).length = n := qL_len _ n
theorem nth_part {a x y : D} : ∀ (q : Nat) (c : D), nth [a, x] q = some c → ∃ c0, nth [a, y] q = some c0 ∧ (c0 = c ∨ (c0 = y ∧ c = x))
  | 0, c, h => ⟨a, rfl, .inl (by simpa [nth] using h)⟩
  | 1, c, h => ⟨y, rfl, .inr ⟨rfl, by simpa [nth] using h.symm⟩⟩
  | n + 2, c, h => by simp [nth] at h
theorem cond_part {a x y : D} {c : D} {b : Bool} {q : Nat} (hc : (bif b then nth [a, x] q else none) = some c) : ∃ c0, (bif b then nth [a, y] q else none) = some c0 ∧ (c0 = c ∨ (c0 = y ∧ c = x)) := by
  cases b
  · cases hc
  · exact nth_part q c hc
theorem lentM_part {a x y : D} {id : Id} {c : D} (hc : lentM [a, x] id = some c) : ∃ c0, lentM [a, y] id = some c0 ∧ (c0 = c ∨ (c0 = y ∧ c = x)) := by
  unfold lentM at hc ⊢
  exact cond_part hc
/-- A nil slice in a variable, told as a part. -/
theorem Lent.part {w : World} {l0 : Loc} {a : D} (h : Lent w l0 [a, .v (.agg ⟨[.slice none 0 0]⟩)]) : Lent w l0 [a, .agg [.v (.slice none 0 0)]] := by
  have key : ∀ id c, lentM [a, .agg [.v (.slice none 0 0)]] id = some c → ∃ c0, lentM [a, .v (.agg ⟨[.slice none 0 0]⟩)] id = some c0 ∧ ((c0 = c) ∨ (c0 = .v (.agg ⟨[.slice none 0 0]⟩) ∧ c = .agg [.v (.slice none 0 0)])) :=
    fun id c hc => lentM_part hc
  refine ⟨h.dom, fun id c hc => ?_, h.range, fun id id' c c' b n n' h1 h2 h3 h4 => ?_⟩
  · obtain ⟨c0, g1, g2⟩ := key id c hc
    obtain ⟨l, xs, q1, q2, q3⟩ := h.mem id c0 g1
    rcases g2 with rfl | ⟨rfl, rfl⟩
    · exact ⟨l, xs, q1, q2, q3⟩
    · refine ⟨l, xs, q1, ?_, q3⟩
      simp only [Rep] at q2
      obtain ⟨q2, _⟩ := q2
      simp only [Value.agg.injEq] at q2
      cases q2
      simp only [Rep, RepL]
      exact ⟨_, rfl, ⟨_, _, rfl, ⟨rfl, rfl⟩, rfl⟩, rfl⟩
  · obtain ⟨c0, g1, _⟩ := key id c h1
    obtain ⟨c0', g1', _⟩ := key id' c' h2
    exact h.inj id id' _ _ b n n' g1 g1' h3 h4
theorem SatM.part {P : Program} {g : FuncId} {args : List D} {a res : D} {ms' : List (Option D)} {news : List D} (h : SatM P g args [a, .agg [.v (.slice none 0 0)]] res ms' news) : SatM P g args [a, .v (.agg ⟨[.slice none 0 0]⟩)] res ms' news :=
  ⟨h.1, fun w vs l0 hl hr => h.2 w vs l0 hl.part hr⟩
end Go.V
namespace Go.Proofs.Ytecjkbgepbefcaa
open Go.V
end Go.Proofs.Ytecjkbgepbefcaa
/- Contracts: numbers for roofs that drip alike, both sides, continued. -/
set_option linter.unusedVariables false
set_option linter.unusedSimpArgs false
namespace Go.V
end Go.V
namespace Go.Proofs.Ytecjkbgepbefcaa
open Go.V
end Go.Proofs.Ytecjkbgepbefcaa
/- Contracts: numbers for roofs that drip alike; the cell upon which rain has to fall; both sides, and the laws. -/
set_option linter.unusedVariables false
set_option linter.unusedSimpArgs false
namespace Go.V
end Go.V
namespace Go.Proofs.Ytecjkbgepbefcaa
open Go.V
end Go.Proofs.Ytecjkbgepbefcaa
/- Plain words: years: visits that are needed, each of them; what has to be replaced; tiles that are too old. -/
set_option linter.unusedVariables false
set_option linter.unusedSimpArgs false
namespace Go.V
theorem chk_erase {life years : Int} (hl : 1 ≤ life) : ∀ (f : Nat) (v last : Int) (k : Nat), k < (visL life years f v).length → chkL life years last (v - life) ((visL life years f v).eraseIdx k) = false
  | 0, v, last, k, h => by simp [visL] at h
  | f + 1, v, last, k, h => by
    by_cases hv : v < years
    · rw [visL_step hv] at h ⊢
      cases k with
      | zero =>
        rw [List.eraseIdx_cons_zero]
        cases f with
        | zero => simp only [visL, chkL]; simp; omega
        | succ f =>
          by_cases hv2 : v + life < years
          · rw [visL_step hv2]
            simp only [chkL]
            rw [if_pos (by omega)]
          · simp only [visL, if_neg hv2, chkL]; simp; omega
      | succ k =>
        rw [List.eraseIdx_cons_succ]
        simp only [chkL]
        split
        · rfl
        · have := chk_erase hl f (v + life) v k (by simpa using h)
          rw [show v + life - life = v by omega] at this
          exact this
    · simp [visL, hv] at h
theorem chk_late {life years : Int} (hl : 1 ≤ life) : ∀ (f : Nat) (v last : Int) (k : Nat), k < (visL life years f v).length → chkL life years last (v - life) ((visL life years f v).set k (ix (visL life years f v) k + 1)) = false
  | 0, v, last, k, h => by simp [visL] at h
  | f + 1, v, last, k, h => by
    by_cases hv : v < years
    · rw [visL_step hv] at h ⊢
      cases k with
      | zero =>
        rw [List.set_cons_zero]
        simp only [chkL]
        rw [if_pos]
        right; right
        show v + 1 - (v - life) > life
        omega
      | succ k =>
        rw [List.set_cons_succ]
        simp only [chkL]
        split
        · rfl
        · have := chk_late hl f (v + life) v k (by simpa using h)
          rw [show v + life - life = v by omega] at this
          exact this
    · simp [visL, hv] at h
theorem visL_few {life years : Int} (hl : 1 ≤ life) : ∀ (f : Nat) (v : Int), (visL life years f v).length ≤ (years - v).toNat
  | 0, v => by simp [visL]
  | f + 1, v => by
    by_cases hv : v < years
    · rw [visL_step hv]
      have := visL_few (years := years) hl f (v + life)
      simp only [List.length_cons]
      omega
    · simp [visL, hv]
theorem visL_at {life years : Int} : ∀ (f : Nat) (v : Int) (i : Nat), i < (visL life years f v).length → ix (visL life years f v) i = v + i * life
  | 0, v, i, h => by simp [visL] at h
  | f + 1, v, i, h => by
    by_cases hv : v < years
    · rw [visL_step hv] at h ⊢
      cases i with
      | zero => simp [ix]
      | succ i =>
        have := visL_at f (v + life) i (by simpa using h)
        unfold ix at this ⊢
        rw [List.getD_cons_succ, this, Int.natCast_succ, Int.add_mul]
        omega
    · simp [visL, hv] at h
theorem bornS_all {life nx y : Int} {born : List Int} {o : Nat} (h : o < born.length) : ix (bornS life nx y born born.length) o = newB life nx y (ix born o) := by
  unfold bornS ix
  rw [List.take_length, List.drop_length, List.append_nil, List.getD_eq_getElem?_getD, List.getD_eq_getElem?_getD, List.getElem?_map]
  simp [h]
/-- At each visit some tile has to be replaced. -/
theorem out_some {life years v0 : Int} {f : Nat} {b0 : List Int} {o : Nat} (hl : 1 ≤ life) (ho : o < b0.length) (hb : ix b0 o = v0 - life) {i : Nat} (hi : i < (visL life years f v0).length) :
    nxAt years (visL life years f v0) i > v0 + i * life ∧ ix (bornI life years (visL life years f v0) b0 i) o = v0 + i * life - life := by
  have nx : ∀ j, j < (visL life years f v0).length → nxAt years (visL life years f v0) j > v0 + j * life := by
    intro j hj
    unfold nxAt
    split
    · rename_i h
      rw [visL_at f v0 (j + 1) h, Int.natCast_succ, Int.add_mul]; omega
    · have := visL_mem hl f v0 (ix (visL life years f v0) j) (ix_mem hj)
      rw [visL_at f v0 j hj] at this
      omega
  refine ⟨nx i hi, ?_⟩
  induction i with
  | zero => simp only [bornI, hb]; omega
  | succ i ih =>
    have h1 := ih (by omega)
    have h2 := nx i (by omega)
    have hlen := bornI_len life years (visL life years f v0) b0 i
    simp only [bornI]
    rw [← hlen, bornS_all (by rw [hlen]; exact ho), h1]
    unfold newB
    rw [if_pos (by omega), visL_at f v0 i (by omega), Int.natCast_succ, Int.add_mul]
    omega
theorem out_ix {life years : Int} {vs b0 : List Int} : ∀ {n i : Nat}, i < n → ix (outI life years vs b0 n) i = ((cntS life (nxAt years vs i) (bornI life years vs b0 i) b0.length : Nat) : Int)
  | 0, i, h => by omega
  | n + 1, i, h => by
    simp only [outI]
    unfold ix
    rw [List.getD_eq_getElem?_getD]
    by_cases hi : i < n
    · rw [List.getElem?_append_left (by simpa using hi)]
      have := out_ix (life := life) (years := years) (vs := vs) (b0 := b0) hi
      unfold ix at this
      rw [List.getD_eq_getElem?_getD] at this
      exact this
    · have : i = n := by omega
      subst this
      rw [List.getElem?_append_right (by simp)]
      simp
theorem cntS_pos {life nx : Int} {born : List Int} {o : Nat} (ho : o < born.length) (h : nx - ix born o > life) : 1 ≤ cntS life nx born born.length := by
  unfold cntS
  rw [List.take_length]
  show 0 < _
  rw [List.countP_pos_iff]
  exact ⟨ix born o, ix_mem ho, by simpa using h⟩
theorem rep_range {life years v0 : Int} {f : Nat} {b0 : List Int} {o : Nat} (hl : 1 ≤ life) (ho : o < b0.length) (hb : ix b0 o = v0 - life) {k : Nat} (hk : k < (visL life years f v0).length) :
    1 ≤ ix (outI life years (visL life years f v0) b0 (visL life years f v0).length) k ∧ ix (outI life years (visL life years f v0) b0 (visL life years f v0).length) k ≤ b0.length := by
  obtain ⟨h1, h2⟩ := out_some (f := f) (years := years) hl ho hb hk
  have hlen := bornI_len life years (visL life years f v0) b0 k
  rw [out_ix hk]
  have h3 := cntS_pos (life := life) (nx := nxAt years (visL life years f v0) k) (born := bornI life years (visL life years f v0) b0 k) (o := o) (by rw [hlen]; exact ho) (by rw [h2]; omega)
  have h4 := cntS_le (life := life) (nx := nxAt years (visL life years f v0) k) (born := bornI life years (visL life years f v0) b0 k) (k := b0.length)
  rw [hlen] at h3
  omega
/-- A roof on which some tiles are of a kind. -/
theorem brkAt_t (r : Roof) : ∀ (ps : List Pl) (n : Nat), n ≤ ps.length → ∀ c k, (brkAt r ps n).t c k = if (c, k) ∈ ps.take n then 3 else r.t c k
  | ps, 0, _, c, k => by rw [brkAt_zero]; simp
  | ps, n + 1, h, c, k => by
    have ih := brkAt_t r ps n (by omega) c k
    rw [brkAt_next r (by omega), take_next (by omega)]
    show (if c = (nthP ps n).1 ∧ k = (nthP ps n).2 then (3 : Int) else (brkAt r ps n).t c k) = _
    by_cases hq : c = (nthP ps n).1 ∧ k = (nthP ps n).2
    · rw [if_pos hq, if_pos]
      rw [List.mem_append]
      right
      rw [List.mem_singleton]
      exact Prod.ext hq.1 hq.2
    · rw [if_neg hq, ih]
      have : ¬ (c, k) = nthP ps n := fun e => hq ⟨by rw [← e], by rw [← e]⟩
      simp [this]
theorem grid_mem {w h : Nat} {q : Pl} : q ∈ gridP w h ↔ q.1 < h ∧ q.2 < w := by
  unfold gridP rowP
  simp only [List.mem_flatMap, List.mem_range, List.mem_map]
  constructor
  · rintro ⟨x, hx, j, hj, rfl⟩; exact ⟨hx, hj⟩
  · rintro ⟨h1, h2⟩; exact ⟨q.1, h1, q.2, h2, rfl⟩
theorem allP_mem {r : Roof} {p : Nat → Nat → Bool} {q : Pl} : q ∈ allP r p ↔ (q.1 < r.h.toNat ∧ q.2 < r.w.toNat) ∧ p q.1 q.2 = true := by
  rw [allP_eq, List.mem_filter, grid_mem]
theorem broken_t {r : Roof} {a : Nat → Nat → Int} {life years : Int} (hz : brkK r a life years = 0) {c k : Nat} (hc : c < r.h.toNat) (hk : k < r.w.toNat) :
    (brkR r a life years).t c k = if oldT a life years c k = true then 3 else r.t c k := by
  unfold brkR
  rw [if_pos hz, brkAt_t r _ _ (Nat.le_refl _), List.take_length]
  unfold oldL
  by_cases ho : oldT a life years c k = true
  · rw [if_pos ho, if_pos (allP_mem.2 ⟨⟨hc, hk⟩, ho⟩)]
  · rw [if_neg ho, if_neg (fun h => ho (allP_mem.1 h).2)]
/-- The oldest tile. -/
theorem oldP_mem2 {r : Roof} (hb : (1 ≤ r.w ∧ r.w ≤ 8) ∧ (1 ≤ r.h ∧ r.h ≤ 8) ∧ r.s ≤ 1) (a : Nat → Nat → Int) : oldP r a ∈ gridP r.w.toNat r.h.toNat := by
  have := gridP_size hb
  exact bestL_mem2 (by omega)
theorem oldP_ge {r : Roof} (hb : (1 ≤ r.w ∧ r.w ≤ 8) ∧ (1 ≤ r.h ∧ r.h ≤ 8) ∧ r.s ≤ 1) (a : Nat → Nat → Int) {q : Pl} (hq : q ∈ gridP r.w.toNat r.h.toNat) : a q.1 q.2 ≤ ageP a (oldP r a) := by
  obtain ⟨i, hi, rfl⟩ := List.getElem_of_mem hq
  have := bestL_max a (gridP r.w.toNat r.h.toNat) ((gridP r.w.toNat r.h.toNat).length - 1) i (by omega)
  have e : nthP (gridP r.w.toNat r.h.toNat) i = (gridP r.w.toNat r.h.toNat)[i] := by unfold nthP; rw [List.getD_eq_getElem?_getD]; simp [hi]
  rw [e] at this
  exact this
/-- The best one of a list is the first of the greatest. -/
theorem bestL_first (a : Nat → Nat → Int) (ps : List Pl) : ∀ n, n < ps.length → ∃ j, j ≤ n ∧ bestL a ps n = nthP ps j ∧ ∀ i, i < j → a (nthP ps i).1 (nthP ps i).2 < a (bestL a ps n).1 (bestL a ps n).2
  | 0, _ => ⟨0, Nat.le_refl _, rfl, fun i hi => by omega⟩
  | n + 1, h => by
    obtain ⟨j, h1, h2, h3⟩ := bestL_first a ps n (by omega)
    simp only [bestL]
    split
    · rename_i hgt
      refine ⟨n + 1, Nat.le_refl _, rfl, fun i hi => ?_⟩
      have := bestL_max a ps n i (by omega)
      omega
    · exact ⟨j, by omega, h2, h3⟩
theorem oldL_pos {r : Roof} (hb : (1 ≤ r.w ∧ r.w ≤ 8) ∧ (1 ≤ r.h ∧ r.h ≤ 8) ∧ r.s ≤ 1) {a : Nat → Nat → Int} (ha : AgesIn a) (life : Int) : 0 < (oldL r a life 0).length ↔ ageP a (oldP r a) > life := by
  have hw : ∀ c k, IntKind.i64.wrap (a c k + 0) = a c k := fun c k => by have := ha.t c k; rw [Int.add_zero]; exact w64 (by omega) (by omega)
  constructor
  · intro h
    obtain ⟨q, hq⟩ := List.exists_mem_of_length_pos h
    have := allP_mem.1 hq
    unfold oldT at this
    rw [hw] at this
    have h2 := oldP_ge hb a (grid_mem.2 this.1)
    have h3 : a q.1 q.2 > life := by simpa using this.2
    omega
  · intro h
    refine List.length_pos_of_mem (a := oldP r a) (allP_mem.2 ⟨grid_mem.1 (oldP_mem2 hb a), ?_⟩)
    unfold oldT
    rw [hw]
    simpa [ageP] using h
end Go.V
/- Contracts: a source of choices out of bytes; valid roofs, ages and rain that are drawn from it. -/
set_option linter.unusedVariables false
set_option linter.unusedSimpArgs false
namespace Go.V
/- Words for the walks of this text: their default arguments are tried where they are used. -/
theorem go_E12 {P Q : Prop} (k : Q) (h : P := by first | exact Nat.le_of_ble_eq_true rfl | exact rfl | decide | omega | (simp [splice]; done) | (constructor <;> omega) | (simp [splice]; omega)) : P ∧ Q := ⟨h, k⟩
theorem lk_E12 {α : Type} {o : Option α} {K : α → Prop} {x : α} (k : K x) (h : o = some x := by first | exact u8A (by omega) | exact u8A' (by omega) | exact gridN (by omega) (by omega) | exact roofN (by omega) (by omega) | exact placeA (by omega) | exact placeB (by omega) | exact placeA' (by omega) | exact placeB' (by omega)) : optK o K := optK_of h k
theorem sm_E12 {P : Program} {g : FuncId} {args args' ms ms0 : List D} {res : D} {ms' : List (Option D)} {news : List D} (h : SatM P g args ms res ms' news) (e : args' = args := by repeat (first | rfl | exact vfull (by first | (simp [splice]; done) | (simp [splice]; omega)) | exact rfull (by first | (simp [splice]; done) | (simp [splice]; omega)) | exact vplace (by simp; done) (by omega) | exact vsplice (by simp) (by simp) | refine ceq ?_ ?_ | refine Eq.trans (vsplice (by first | (simp; done) | (simp; omega)) (by first | (simp; done) | (simp; omega))) ?_)) (e2 : ms0 = ms := by repeat (first | rfl | exact vfull (by first | (simp [splice]; done) | (simp [splice]; omega)) | exact rfull (by first | (simp [splice]; done) | (simp [splice]; omega)) | exact vplace (by simp; done) (by omega) | exact vsplice (by simp) (by simp) | refine ceq ?_ ?_ | refine Eq.trans (vsplice (by first | (simp; done) | (simp; omega)) (by first | (simp; done) | (simp; omega))) ?_)) : SatM P g args' ms0 res ms' news := SatM.of_eq h e e2
end Go.V
namespace Go.V
/-- Bytes. -/
@[irreducible] def u8C (xs : List Int) : List Value := xs.map (Value.int .u8)
theorem u8C_def (xs : List Int) : u8C xs = xs.map (Value.int .u8) := by unfold u8C; rfl
@[simp] theorem u8C_len (xs : List Int) : (u8C xs).length = xs.length := by simp [u8C_def]
def u8D (m : Bool) (xs : List Int) : D := .row m 1 (.v (.agg ⟨u8C xs⟩)) xs.length
def Bytes (xs : List Int) : Prop := ∀ i, i < xs.length → 0 ≤ ix xs i ∧ ix xs i ≤ 255
theorem u8N {xs : List Int} {i o : Nat} (ho : o = i) (h : i < xs.length) : nth (u8C xs) o = some (.int .u8 (ix xs i)) := by
  subst ho
  rw [nth_eq, u8C_def, List.getElem?_map]
  unfold ix
  rw [List.getD_eq_getElem?_getD]
  simp [h]
theorem u8A {xs : List Int} {i : Nat} (h : i < xs.length) : nth (u8C xs) (0 + (i : Int).toNat * 1) = some (.int .u8 (ix xs i)) := u8N (by simp) h
theorem u8A' {xs : List Int} {i : Nat} (h : i < xs.length) : nth (u8C xs) ((i : Int).toNat * 1) = some (.int .u8 (ix xs i)) := u8N (by simp) h
/-- The state of a source: how many were read, a number. -/
abbrev Sc := Nat × Int
def srcD (xs : List Int) (σ : Sc) : D := .agg [u8D false xs, .v (.int .i64 σ.1), .v (.int .u64 σ.2)]
def nxB (xs : List Int) (σ : Sc) : Int := if σ.1 < xs.length then ix xs σ.1 else 0
def nxS (xs : List Int) (σ : Sc) : Int := IntKind.u64.wrap (IntKind.u64.wrap (IntKind.u64.wrap (σ.2 * 6364136223846793005) + IntKind.u64.wrap (nxB xs σ)) + 1442695040888963407)
def andU (x : Int) : Int := IntKind.u64.wrap (BitVec.ofInt IntKind.u64.bits (x.fdiv (2 ^ (min 40 IntKind.u64.bits))) &&& BitVec.ofInt IntKind.u64.bits 255).toNat
def nxV (xs : List Int) (σ : Sc) : Int := if σ.1 + 1 ≤ xs.length then nxB xs σ else IntKind.i64.wrap (andU (nxS xs σ))
def nxt (xs : List Int) (σ : Sc) : Sc := (σ.1 + 1, nxS xs σ)
theorem andU_in (x : Int) : 0 ≤ andU x ∧ andU x ≤ 255 := by
  unfold andU
  generalize BitVec.ofInt IntKind.u64.bits (x.fdiv (2 ^ (min 40 IntKind.u64.bits))) = b
  have h : (b &&& BitVec.ofInt IntKind.u64.bits 255).toNat ≤ 255 := by
    rw [BitVec.toNat_and]
    have : (BitVec.ofInt IntKind.u64.bits 255).toNat = 255 := by decide
    rw [this]
    exact Nat.and_le_right
  generalize (b &&& BitVec.ofInt IntKind.u64.bits 255).toNat = n at h
  rw [wu64 (by omega) (by omega)]
  omega
theorem nxV_in {xs : List Int} (h : Bytes xs) (σ : Sc) : 0 ≤ nxV xs σ ∧ nxV xs σ ≤ 255 := by
  unfold nxV nxB
  have h2 := andU_in (nxS xs σ)
  split
  · rename_i h1
    rw [if_pos (by omega)]
    exact h _ (by omega)
  · rw [w64 (by omega) (by omega)]; exact h2
/-- One choice among n. -/
def pkV (xs : List Int) (n : Int) (σ : Sc) : Int := if n ≤ 1 then 0 else (nxV xs σ).tmod n
def pkS (xs : List Int) (n : Int) (σ : Sc) : Sc := if n ≤ 1 then σ else nxt xs σ
theorem pkV_in {xs : List Int} (h : Bytes xs) {n : Int} (hn : 1 ≤ n) (σ : Sc) : 0 ≤ pkV xs n σ ∧ pkV xs n σ < n := by
  unfold pkV
  have := nxV_in h σ
  split
  · omega
  · have e : (nxV xs σ).tmod n = nxV xs σ % n := Int.tmod_eq_emod_of_nonneg this.1
    rw [e]
    exact ⟨Int.emod_nonneg _ (by omega), Int.emod_lt_of_pos _ (by omega)⟩
theorem pkS_le (xs : List Int) (n : Int) (σ : Sc) : (pkS xs n σ).1 ≤ σ.1 + 1 := by
  unfold pkS nxt; split
  · omega
  · exact Nat.le_refl _
end Go.V
namespace Go.Proofs.Ytecjkbgepbefcaa
open Go.V
theorem l00From_satM (xs : List Int) : SatM Try.prog 44 [u8D false xs] [] (.ptr (0, 0, 0) 0) [] [srcD xs (0, 0)] := by
  refine satM_of_wp hMix tOk Try.func44 rfl rfl Try.ntmps44 rfl rfl Try.results44 (by kernel_rfl) ?_
  conv => whnf
  repeat (first | (refine go_E12 ?_; conv => whnf) | (refine lk_E12 ?_; conv => whnf))
  refine ⟨[(5, 0, 0)], _, rfl, rfl, rfl, ?_, ?_, rfl⟩
  · rfl
  ((repeat' (first | exact trivial | apply And.intro)) <;> (refine ⟨_, rfl, ?_⟩; first | rfl | (rfl)))
theorem next_satM (xs : List Int) (hx : Bytes xs) (hl : xs.length ≤ 3000) (σ : Sc) (hσ : σ.1 ≤ 1000000) : SatM Try.prog 128 [.ptr (lentId 0) 0] [srcD xs σ] (.v (.int .i64 (nxV xs σ))) [some (srcD xs (nxt xs σ))] [] := by
  have e1 : IntKind.i64.wrap ((σ.1 : Int) + 1) = ((σ.1 + 1 : Nat) : Int) := by rw [w64 (by omega) (by omega)]; omega
  refine satM_of_wp hMix tOk Try.func128 rfl rfl Try.ntmps128 rfl rfl Try.results128 (by kernel_rfl) ?_
  conv => whnf
  repeat (first | (refine go_E12 ?_; conv => whnf) | (refine lk_E12 ?_; conv => whnf))
  cases h1 : decide ((σ.1 : Int) < (xs.length : Int))
  · have h1' : ¬ σ.1 < xs.length := by simpa using h1
    have hb : nxB xs σ = 0 := by unfold nxB; rw [if_neg h1']
    conv => whnf
    repeat (first | (refine go_E12 ?_; conv => whnf) | (refine lk_E12 ?_; conv => whnf))
    rw [e1]
    rw [show decide (((σ.1 + 1 : Nat) : Int) ≤ (xs.length : Int)) = false by simp; omega]
    conv => whnf
    repeat (first | (refine go_E12 ?_; conv => whnf) | (refine lk_E12 ?_; conv => whnf))
    have ev : nxV xs σ = IntKind.i64.wrap (andU (nxS xs σ)) := by unfold nxV; rw [if_neg (by omega)]
    have es : nxS xs σ = IntKind.u64.wrap (IntKind.u64.wrap (IntKind.u64.wrap (σ.2 * 6364136223846793005) + IntKind.u64.wrap 0) + 1442695040888963407) := by unfold nxS; rw [hb]
    rw [ev]
    unfold nxt
    rw [es]
    refine ⟨[], _, rfl, rfl, rfl, ?_, ?_, rfl⟩
    · rfl
    ((repeat' (first | exact trivial | apply And.intro)) <;> (refine ⟨_, rfl, ?_⟩; first | rfl | (rfl)))
  have h1' : σ.1 < xs.length := by simpa using h1
  have hb : nxB xs σ = ix xs σ.1 := by unfold nxB; rw [if_pos h1']
  have hbx := hx _ h1'
  conv => whnf
  repeat (first | (refine go_E12 ?_; conv => whnf) | (refine lk_E12 ?_; conv => whnf))
  rw [e1, show IntKind.i64.wrap (ix xs σ.1) = ix xs σ.1 from w64 (by omega) (by omega)]
  rw [show decide (((σ.1 + 1 : Nat) : Int) ≤ (xs.length : Int)) = true by simp; omega]
  conv => whnf
  repeat (first | (refine go_E12 ?_; conv => whnf) | (refine lk_E12 ?_; conv => whnf))
  have ev : nxV xs σ = ix xs σ.1 := by unfold nxV; rw [if_pos (by omega), hb]
  have es : nxS xs σ = IntKind.u64.wrap (IntKind.u64.wrap (IntKind.u64.wrap (σ.2 * 6364136223846793005) + IntKind.u64.wrap (ix xs σ.1)) + 1442695040888963407) := by unfold nxS; rw [hb]
  rw [ev]
  unfold nxt
  rw [es]
  refine ⟨[], _, rfl, rfl, rfl, ?_, ?_, rfl⟩
  · rfl
  ((repeat' (first | exact trivial | apply And.intro)) <;> (refine ⟨_, rfl, ?_⟩; first | rfl | (rfl)))
theorem pick_satM (xs : List Int) (hx : Bytes xs) (hl : xs.length ≤ 3000) (n : Int) (hn : n ≤ 200) (σ : Sc) (hσ : σ.1 ≤ 1000000) : SatM Try.prog 100 [.ptr (lentId 0) 0, .v (.int .i64 n)] [srcD xs σ] (.v (.int .i64 (pkV xs n σ))) [some (srcD xs (pkS xs n σ))] [] := by
  refine satM_of_wp hMix tOk Try.func100 rfl rfl Try.ntmps100 rfl rfl Try.results100 (by kernel_rfl) ?_
  conv => whnf
  repeat (first | (refine go_E12 ?_; conv => whnf) | (refine lk_E12 ?_; conv => whnf))
  cases h1 : decide (n ≤ 1)
  case true =>
    have h1' : n ≤ 1 := by simpa using h1
    rw [show pkV xs n σ = 0 by unfold pkV; rw [if_pos h1'], show pkS xs n σ = σ by unfold pkS; rw [if_pos h1']]
    conv => whnf
    repeat (first | (refine go_E12 ?_; conv => whnf) | (refine lk_E12 ?_; conv => whnf))
    refine ⟨[], _, rfl, rfl, rfl, ?_, ?_, rfl⟩
    · rfl
    ((repeat' (first | exact trivial | apply And.intro)) <;> (refine ⟨_, rfl, ?_⟩; first | rfl | (rfl)))
  have h1' : ¬ n ≤ 1 := by simpa using h1
  have hne : n ≠ 0 := by omega
  rw [show pkV xs n σ = (nxV xs σ).tmod n by unfold pkV; rw [if_neg h1'], show pkS xs n σ = nxt xs σ by unfold pkS; rw [if_neg h1']]
  conv => whnf
  repeat (first | (refine go_E12 ?_; conv => whnf) | (refine lk_E12 ?_; conv => whnf))
  first | refine ⟨[(lentId 0)], _, _, _, _, _, _, _, _, rfl, rfl, rfl, rfl, (sm_E12 (next_satM xs hx hl σ hσ)), rfl, rfl, rfl, rfl, ?_⟩ | refine .inr ⟨[(lentId 0)], _, _, _, _, _, _, _, _, rfl, rfl, rfl, rfl, (sm_E12 (next_satM xs hx hl σ hσ)), rfl, rfl, rfl, rfl, ?_⟩ | refine ⟨[(lentId 0)], _, _, _, _, _, rfl, rfl, rfl, rfl, (sm_E12 (next_satM xs hx hl σ hσ)), rfl, rfl, ?_⟩
  conv => whnf
  repeat (first | (refine go_E12 ?_; conv => whnf) | (refine lk_E12 ?_; conv => whnf))
  rw [show decide (n > 200) = false by simp; omega]
  conv => whnf
  repeat (first | (refine go_E12 ?_; conv => whnf) | (refine lk_E12 ?_; conv => whnf))
  refine ⟨[], _, rfl, rfl, rfl, ?_, ?_, rfl⟩
  · rfl
  ((repeat' (first | exact trivial | apply And.intro)) <;> (refine ⟨_, rfl, ?_⟩; first | rfl | (rfl)))
theorem one_satM (xs : List Int) (hx : Bytes xs) (hl : xs.length ≤ 3000) (n : Int) (hn : n ≤ 200) (σ : Sc) (hσ : σ.1 ≤ 1000000) : SatM Try.prog 101 [.ptr (lentId 0) 0, .v (.int .i64 n)] [srcD xs σ] (.v (.bool (pkV xs n σ == 0))) [some (srcD xs (pkS xs n σ))] [] := by
  refine satM_of_wp hMix tOk Try.func101 rfl rfl Try.ntmps101 rfl rfl Try.results101 (by kernel_rfl) ?_
  conv => whnf
  repeat (first | (refine go_E12 ?_; conv => whnf) | (refine lk_E12 ?_; conv => whnf))
  first | refine ⟨[(lentId 0)], _, _, _, _, _, _, _, _, rfl, rfl, rfl, rfl, (sm_E12 (pick_satM xs hx hl n hn σ hσ)), rfl, rfl, rfl, rfl, ?_⟩ | refine .inr ⟨[(lentId 0)], _, _, _, _, _, _, _, _, rfl, rfl, rfl, rfl, (sm_E12 (pick_satM xs hx hl n hn σ hσ)), rfl, rfl, rfl, rfl, ?_⟩ | refine ⟨[(lentId 0)], _, _, _, _, _, rfl, rfl, rfl, rfl, (sm_E12 (pick_satM xs hx hl n hn σ hσ)), rfl, rfl, ?_⟩
  conv => whnf
  repeat (first | (refine go_E12 ?_; conv => whnf) | (refine lk_E12 ?_; conv => whnf))
  refine ⟨[], _, rfl, rfl, rfl, ?_, ?_, rfl⟩
  · rfl
  ((repeat' (first | exact trivial | apply And.intro)) <;> (refine ⟨_, rfl, ?_⟩; first | rfl | (rfl)))
end Go.Proofs.Ytecjkbgepbefcaa
/- Contracts: valid roofs, ages and rain that are drawn from bytes. -/
set_option linter.unusedVariables false
set_option linter.unusedSimpArgs false
namespace Go.V
/- Words for the walks of this text: their default arguments are tried where they are used. -/
theorem go_E13 {P Q : Prop} (k : Q) (h : P := by first | exact Nat.le_of_ble_eq_true rfl | exact trivial | exact rfl | decide | omega | (simp [splice]; done) | (constructor <;> omega) | (simp [splice]; omega)) : P ∧ Q := ⟨h, k⟩
theorem lk_E13 {α : Type} {o : Option α} {K : α → Prop} {x : α} (k : K x) (h : o = some x := by first | exact gridN (by omega) (by omega) | exact roofN (by omega) (by omega) | exact placeA (by omega) | exact placeB (by omega) | exact placeA' (by omega) | exact placeB' (by omega)) : optK o K := optK_of h k
theorem sc_E13 {P : Program} {g : FuncId} {args args' : List D} {res : D} (h : Sat P g args res) (e : args' = args := by repeat (first | rfl | exact vfull (by first | (simp [splice]; done) | (simp [splice]; omega)) | exact rfull (by first | (simp [splice]; done) | (simp [splice]; omega)) | exact vroof0 (by simp) | exact vrefsplice (by simp) | exact vplace (by simp; done) (by omega) | exact vsplice (by simp) (by simp) | refine ceq ?_ ?_ | refine Eq.trans (vsplice (by first | (simp; done) | (simp; omega)) (by first | (simp; done) | (simp; omega))) ?_)) : Sat P g args' res := Sat.of_eq h e
theorem sm_E13 {P : Program} {g : FuncId} {args args' ms ms0 : List D} {res : D} {ms' : List (Option D)} {news : List D} (h : SatM P g args ms res ms' news) (e : args' = args := by repeat (first | rfl | exact vfull (by first | (simp [splice]; done) | (simp [splice]; omega)) | exact rfull (by first | (simp [splice]; done) | (simp [splice]; omega)) | exact vroof0 (by simp) | exact vrefsplice (by simp) | exact vplace (by simp; done) (by omega) | exact vsplice (by simp) (by simp) | refine ceq ?_ ?_ | refine Eq.trans (vsplice (by first | (simp; done) | (simp; omega)) (by first | (simp; done) | (simp; omega))) ?_)) (e2 : ms0 = ms := by repeat (first | rfl | exact vfull (by first | (simp [splice]; done) | (simp [splice]; omega)) | exact rfull (by first | (simp [splice]; done) | (simp [splice]; omega)) | exact vroof0 (by simp) | exact vrefsplice (by simp) | exact vplace (by simp; done) (by omega) | exact vsplice (by simp) (by simp) | refine ceq ?_ ?_ | refine Eq.trans (vsplice (by first | (simp; done) | (simp; omega)) (by first | (simp; done) | (simp; omega))) ?_)) : SatM P g args' ms0 res ms' news := SatM.of_eq h e e2
theorem hold_E13 {P : Prop} (h : P := by (repeat' (first | exact trivial | apply And.intro)) <;> (first | rfl | exact succ8 (by omega) | exact succ64 (by omega) | exact CapOk.fn (by assumption) _ _ | exact vintS (by omega) | exact vintS (by rw [w64 (by omega) (by omega)]; omega) | exact vintS (by rw [w8 (by omega) (by omega)]; omega) | exact vslcS (by omega) | exact vslcS (by simp))) : P := h
theorem okt_E13 {P : Prop} (h : P := by first | omega | (dsimp only; omega) | ((repeat' apply And.intro) <;> omega) | (dsimp only; (repeat' apply And.intro) <;> omega) | trivial) : P := h
end Go.V
namespace Go.V
theorem vrefsplice {xs ys : List Value} (h : xs.length = ys.length) : D.ref false (.v (.agg ⟨splice xs 0 ys⟩)) 0 = .ref false (.v (.agg ⟨ys⟩)) 0 := by rw [splice_all h]
theorem vroof0 {w h s : Int} {zs : List Value} (hz : zs.length = 67) : D.ref false (.v (.agg ⟨splice zs 0 (.int .i8 w :: .int .i8 h :: .int .u8 s :: List.replicate 64 (.int .u8 0))⟩)) 0 = .ref false (roofD ⟨w, h, s, fun _ _ => 0⟩) 0 := by
  rw [splice_all (by simpa using hz)]
  unfold roofD roofC
  rw [grid_zero]
theorem vroof0S {w h s : Int} {zs : List Value} (hz : zs.length = 67) : some (D.v (.agg ⟨splice zs 0 (.int .i8 w :: .int .i8 h :: .int .u8 s :: List.replicate 64 (.int .u8 0))⟩)) = some (roofD ⟨w, h, s, fun _ _ => 0⟩) := by
  rw [splice_all (by simpa using hz)]
  unfold roofD roofC
  rw [grid_zero]
theorem vrai0S {zs : List Value} (hz : zs.length = 17) : some (D.v (.agg ⟨splice zs 0 (List.replicate 17 (.int .i16 0))⟩)) = some (raiD fun _ => 0) := by
  rw [splice_all (by simpa using hz)]
  unfold raiD
  rw [raiC_zero]
def s0 : Sc := (0, 0)
def dr0 (xs : List Int) : Sc × Int := (pkS xs 5 s0, pkV xs 5 s0)
def dr1 (xs : List Int) : Sc × Int := (pkS xs 5 (dr0 xs).1, pkV xs 5 (dr0 xs).1)
def dr2 (xs : List Int) : Sc × Int := (pkS xs 2 (dr1 xs).1, pkV xs 2 (dr1 xs).1)
def dr3 (xs : List Int) : Sc × Int := (pkS xs 5 (dr2 xs).1, pkV xs 5 (dr2 xs).1)
def drR0 (xs : List Int) : Roof := ⟨1 + (dr0 xs).2, 1 + (dr1 xs).2, (dr2 xs).2, fun _ _ => 0⟩
def drFew (xs : List Int) : Int := 2 + (dr3 xs).2
def drG (xs : List Int) : List Pl := gridP (drR0 xs).w.toNat (drR0 xs).h.toNat
def dwQ (xs : List Int) (ps : List Pl) (few : Int) (r : Roof) (σ : Sc) : Nat → Roof × Sc
  | 0 => (r, σ)
  | i + 1 =>
    if pkV xs few (dwQ xs ps few r σ i).2 = 0 then
      (putR (dwQ xs ps few r σ i).1 (nthP ps i).1 (nthP ps i).2 (pkV xs 4 (pkS xs few (dwQ xs ps few r σ i).2)), pkS xs 4 (pkS xs few (dwQ xs ps few r σ i).2))
    else ((dwQ xs ps few r σ i).1, pkS xs few (dwQ xs ps few r σ i).2)
theorem dwQ_no {xs : List Int} {ps : List Pl} {few : Int} {r : Roof} {σ : Sc} {i : Nat} (h : ¬ pkV xs few (dwQ xs ps few r σ i).2 = 0) : dwQ xs ps few r σ (i + 1) = ((dwQ xs ps few r σ i).1, pkS xs few (dwQ xs ps few r σ i).2) := by simp only [dwQ, if_neg h]
theorem dwQ_yes {xs : List Int} {ps : List Pl} {few : Int} {r : Roof} {σ : Sc} {i : Nat} (h : pkV xs few (dwQ xs ps few r σ i).2 = 0) : dwQ xs ps few r σ (i + 1) = (putR (dwQ xs ps few r σ i).1 (nthP ps i).1 (nthP ps i).2 (pkV xs 4 (pkS xs few (dwQ xs ps few r σ i).2)), pkS xs 4 (pkS xs few (dwQ xs ps few r σ i).2)) := by simp only [dwQ, if_pos h]
/-- The roof that is drawn. -/
def dwR (xs : List Int) : Roof × Sc := dwQ xs (drG xs) (drFew xs) (drR0 xs) (dr3 xs).1 (drG xs).length
theorem drP_in {xs : List Int} (h : Bytes xs) : (0 ≤ (dr0 xs).2 ∧ (dr0 xs).2 < 5) ∧ (0 ≤ (dr1 xs).2 ∧ (dr1 xs).2 < 5) ∧ (0 ≤ (dr2 xs).2 ∧ (dr2 xs).2 < 2) ∧ (0 ≤ (dr3 xs).2 ∧ (dr3 xs).2 < 5) :=
  ⟨pkV_in h (n := 5) (by omega) s0, pkV_in h (n := 5) (by omega) (dr0 xs).1, pkV_in h (n := 2) (by omega) (dr1 xs).1, pkV_in h (n := 5) (by omega) (dr2 xs).1⟩
theorem drP_at (xs : List Int) : (dr0 xs).1.1 ≤ 1 ∧ (dr1 xs).1.1 ≤ 2 ∧ (dr2 xs).1.1 ≤ 3 ∧ (dr3 xs).1.1 ≤ 4 := by
  have h0 : (dr0 xs).1.1 ≤ s0.1 + 1 := pkS_le _ _ _
  have h1 : (dr1 xs).1.1 ≤ (dr0 xs).1.1 + 1 := pkS_le _ _ _
  have h2 : (dr2 xs).1.1 ≤ (dr1 xs).1.1 + 1 := pkS_le _ _ _
  have h3 : (dr3 xs).1.1 ≤ (dr2 xs).1.1 + 1 := pkS_le _ _ _
  have : s0.1 = 0 := rfl
  omega
theorem dwQ_at (xs : List Int) (ps : List Pl) (few : Int) (r : Roof) (σ : Sc) : ∀ i, (dwQ xs ps few r σ i).2.1 ≤ σ.1 + 2 * i
  | 0 => by simp [dwQ]
  | i + 1 => by
    have ih := dwQ_at xs ps few r σ i
    have h1 := pkS_le xs few (dwQ xs ps few r σ i).2
    have h2 := pkS_le xs 4 (pkS xs few (dwQ xs ps few r σ i).2)
    simp only [dwQ]
    split <;> dsimp only <;> omega
theorem cell_put {r : Roof} (h : okR r = true) {c k : Nat} (hc : (c : Int) < r.h) (hk : (k : Int) < r.w) {x : Int} (hx : 0 ≤ x ∧ x ≤ 3) : okR (putR r c k x) = true := by
  rw [okR_def] at h ⊢
  rw [Bool.and_eq_true] at h ⊢
  refine ⟨h.1, all8_true fun c' hc' k' hk' => ?_⟩
  have := all8_iff.1 h.2 c' hc' k' hk'
  unfold cellOk putR putG at *
  dsimp only
  by_cases hq : c' = c ∧ k' = k
  · obtain ⟨rfl, rfl⟩ := hq
    simp only [and_self, if_true]
    simp; omega
  · simp only [hq, if_false]; exact this
theorem dwQ_dims (xs : List Int) (ps : List Pl) (few : Int) (r : Roof) (σ : Sc) : ∀ i, (dwQ xs ps few r σ i).1.w = r.w ∧ (dwQ xs ps few r σ i).1.h = r.h ∧ (dwQ xs ps few r σ i).1.s = r.s
  | 0 => ⟨rfl, rfl, rfl⟩
  | i + 1 => by
    have ih := dwQ_dims xs ps few r σ i
    simp only [dwQ]
    split
    · exact ih
    · exact ih
theorem dwQ_ok {xs : List Int} (h : Bytes xs) {few : Int} {r : Roof} {σ : Sc} (hr : okR r = true) (hi : r.In) : ∀ i, i ≤ (gridP r.w.toNat r.h.toNat).length → okR (dwQ xs (gridP r.w.toNat r.h.toNat) few r σ i).1 = true ∧ (dwQ xs (gridP r.w.toNat r.h.toNat) few r σ i).1.In
  | 0, _ => ⟨hr, hi⟩
  | i + 1, hl => by
    obtain ⟨h1, h2⟩ := dwQ_ok h hr hi (few := few) (σ := σ) i (by omega)
    obtain ⟨d1, d2, d3⟩ := dwQ_dims xs (gridP r.w.toNat r.h.toNat) few r σ i
    have hp := pkV_in h (n := 4) (by omega) (pkS xs few (dwQ xs (gridP r.w.toNat r.h.toNat) few r σ i).2)
    have hm := grid_mem.1 (nthP_mem (show i < (gridP r.w.toNat r.h.toNat).length by omega))
    simp only [dwQ]
    split
    · exact ⟨cell_put h1 (by rw [d2]; omega) (by rw [d1]; omega) (by omega), putR_in h2 (by omega)⟩
    · exact ⟨h1, h2⟩
theorem drR0_ok {xs : List Int} (h : Bytes xs) : okR (drR0 xs) = true ∧ (drR0 xs).In := by
  obtain ⟨h0, h1, h2, _⟩ := drP_in h
  constructor
  · rw [okR_def, Bool.and_eq_true]
    refine ⟨?_, all8_true fun c _ k _ => ?_⟩
    · unfold drR0; simp; omega
    · unfold cellOk drR0; simp
  · exact ⟨by unfold drR0; dsimp only; omega, by unfold drR0; dsimp only; omega, by unfold drR0; dsimp only; omega, fun _ _ => by unfold drR0; dsimp only; omega⟩
theorem dwR_ok {xs : List Int} (h : Bytes xs) : okR (dwR xs).1 = true ∧ (dwR xs).1.In := by
  obtain ⟨h1, h2⟩ := drR0_ok h
  exact dwQ_ok h h1 h2 _ (Nat.le_refl _)
/-- Rain that is drawn. -/
def rnQ (xs : List Int) (even : Int) (many : Bool) (σ : Sc) : Nat → (Nat → Int) × Sc
  | 0 => (fun _ => 0, σ)
  | i + 1 => if many = true then (putW (rnQ xs even many σ i).1 i (pkV xs 30 (rnQ xs even many σ i).2), pkS xs 30 (rnQ xs even many σ i).2) else (putW (rnQ xs even many σ i).1 i even, (rnQ xs even many σ i).2)
theorem rnQ_next {xs : List Int} {even : Int} {many : Bool} {σ : Sc} {i : Nat} : rnQ xs even many σ (i + 1) = if many = true then (putW (rnQ xs even many σ i).1 i (pkV xs 30 (rnQ xs even many σ i).2), pkS xs 30 (rnQ xs even many σ i).2) else (putW (rnQ xs even many σ i).1 i even, (rnQ xs even many σ i).2) := rfl
theorem rnQ_at (xs : List Int) (even : Int) (many : Bool) (σ : Sc) : ∀ i, (rnQ xs even many σ i).2.1 ≤ σ.1 + i
  | 0 => by simp [rnQ]
  | i + 1 => by
    have ih := rnQ_at xs even many σ i
    have h1 := pkS_le xs 30 (rnQ xs even many σ i).2
    simp only [rnQ]
    split <;> dsimp only <;> omega
def rnR (xs : List Int) (r : Roof) : (Nat → Int) × Sc := rnQ xs (pkV xs 30 s0) (pkV xs 2 (pkS xs 30 s0) == 0) (pkS xs 2 (pkS xs 30 s0)) (2 * r.w + 1).toNat
theorem rnQ_in {xs : List Int} (h : Bytes xs) {even : Int} (he : 0 ≤ even ∧ even < 30) {many : Bool} {σ : Sc} : ∀ i c, 0 ≤ (rnQ xs even many σ i).1 c ∧ (rnQ xs even many σ i).1 c < 30 ∧ (i ≤ c → (rnQ xs even many σ i).1 c = 0)
  | 0, c => by simp [rnQ]
  | i + 1, c => by
    obtain ⟨h1, h2, h3⟩ := rnQ_in h he (many := many) (σ := σ) i c
    have hp := pkV_in h (n := 30) (by omega) (rnQ xs even many σ i).2
    simp only [rnQ]
    split <;> simp only [putW] <;> split <;> (refine ⟨by omega, by omega, fun hc => ?_⟩) <;> first | omega | exact h3 (by omega)
theorem rnR_ok {xs : List Int} (h : Bytes xs) {r : Roof} (hr : okR r = true) : okN r (rnR xs r).1 = true ∧ RaiIn (rnR xs r).1 := by
  have hp := pkV_in h (n := 30) (by omega) s0
  have hin := fun c => rnQ_in h hp (many := pkV xs 2 (pkS xs 30 s0) == 0) (σ := pkS xs 2 (pkS xs 30 s0)) (2 * r.w + 1).toNat c
  refine ⟨okN_yes hr fun c _ => ?_, ⟨fun c => by have := hin c; unfold rnR; omega⟩⟩
  have h1 := hin c
  unfold rnB deepB
  by_cases hc : (c : Int) ≥ 2 * r.w + 1
  · have : (rnR xs r).1 c = 0 := h1.2.2 (by omega)
    rw [this]; simp
  · have h2 : 0 ≤ (rnR xs r).1 c ∧ (rnR xs r).1 c < 30 := ⟨h1.1, h1.2.1⟩
    simp; omega
end Go.V
namespace Go.Proofs.Ytecjkbgepbefcaa
open Go.V
theorem l01Drawn_satM (xs : List Int) (hx : Bytes xs) (hl : xs.length ≤ 3000) : SatM Try.prog 43 [.ptr (lentId 0) 0] [srcD xs s0] (roofD (dwR xs).1) [some (srcD xs (dwR xs).2)] [] := by
  obtain ⟨p0, p1, p2, p3⟩ := drP_in hx
  obtain ⟨q0, q1, q2, q3⟩ := drP_at xs
  obtain ⟨hok0, hin0⟩ := drR0_ok hx
  have hb0 := okR_bounds hok0
  refine satM_of_wp hMix tOk Try.func43 rfl rfl Try.ntmps43 rfl rfl Try.results43 (by kernel_rfl) ?_
  conv => whnf
  repeat (first | (refine go_E13 ?_; conv => whnf) | (refine lk_E13 ?_; conv => whnf))
  first | refine ⟨[(lentId 0)], _, _, _, _, _, _, _, _, rfl, rfl, rfl, rfl, (sm_E13 (pick_satM xs hx hl 5 (by omega) s0 (by show 0 ≤ 1000000; omega))), rfl, rfl, rfl, rfl, ?_⟩ | refine .inr ⟨[(lentId 0)], _, _, _, _, _, _, _, _, rfl, rfl, rfl, rfl, (sm_E13 (pick_satM xs hx hl 5 (by omega) s0 (by show 0 ≤ 1000000; omega))), rfl, rfl, rfl, rfl, ?_⟩ | refine ⟨[(lentId 0)], _, _, _, _, _, rfl, rfl, rfl, rfl, (sm_E13 (pick_satM xs hx hl 5 (by omega) s0 (by show 0 ≤ 1000000; omega))), rfl, rfl, ?_⟩
  conv => whnf
  repeat (first | (refine go_E13 ?_; conv => whnf) | (refine lk_E13 ?_; conv => whnf))
  first | refine ⟨[(lentId 0)], _, _, _, _, _, _, _, _, rfl, rfl, rfl, rfl, (sm_E13 (pick_satM xs hx hl 5 (by omega) (dr0 xs).1 (by omega))), rfl, rfl, rfl, rfl, ?_⟩ | refine .inr ⟨[(lentId 0)], _, _, _, _, _, _, _, _, rfl, rfl, rfl, rfl, (sm_E13 (pick_satM xs hx hl 5 (by omega) (dr0 xs).1 (by omega))), rfl, rfl, rfl, rfl, ?_⟩ | refine ⟨[(lentId 0)], _, _, _, _, _, rfl, rfl, rfl, rfl, (sm_E13 (pick_satM xs hx hl 5 (by omega) (dr0 xs).1 (by omega))), rfl, rfl, ?_⟩
  conv => whnf
  repeat (first | (refine go_E13 ?_; conv => whnf) | (refine lk_E13 ?_; conv => whnf))
  first | refine ⟨[(lentId 0)], _, _, _, _, _, _, _, _, rfl, rfl, rfl, rfl, (sm_E13 (pick_satM xs hx hl 2 (by omega) (dr1 xs).1 (by omega))), rfl, rfl, rfl, rfl, ?_⟩ | refine .inr ⟨[(lentId 0)], _, _, _, _, _, _, _, _, rfl, rfl, rfl, rfl, (sm_E13 (pick_satM xs hx hl 2 (by omega) (dr1 xs).1 (by omega))), rfl, rfl, rfl, rfl, ?_⟩ | refine ⟨[(lentId 0)], _, _, _, _, _, rfl, rfl, rfl, rfl, (sm_E13 (pick_satM xs hx hl 2 (by omega) (dr1 xs).1 (by omega))), rfl, rfl, ?_⟩
  conv => whnf
  repeat (first | (refine go_E13 ?_; conv => whnf) | (refine lk_E13 ?_; conv => whnf))
  rw [show IntKind.i8.wrap (IntKind.i64.wrap (1 + pkV xs 5 s0)) = (drR0 xs).w by rw [show pkV xs 5 s0 = (dr0 xs).2 from rfl, w64 (by omega) (by omega), w8 (by omega) (by omega)]; rfl,
    show IntKind.i8.wrap (IntKind.i64.wrap (1 + pkV xs 5 (dr0 xs).1)) = (drR0 xs).h by rw [show pkV xs 5 (dr0 xs).1 = (dr1 xs).2 from rfl, w64 (by omega) (by omega), w8 (by omega) (by omega)]; rfl,
    show IntKind.u8.wrap (pkV xs 2 (dr1 xs).1) = (drR0 xs).s by rw [show pkV xs 2 (dr1 xs).1 = (dr2 xs).2 from rfl, wu8 (by omega) (by omega)]; rfl]
  first | refine ⟨[(lentId 0)], _, _, _, _, _, _, _, _, rfl, rfl, rfl, rfl, (sm_E13 (pick_satM xs hx hl 5 (by omega) (dr2 xs).1 (by omega))), rfl, rfl, rfl, rfl, ?_⟩ | refine .inr ⟨[(lentId 0)], _, _, _, _, _, _, _, _, rfl, rfl, rfl, rfl, (sm_E13 (pick_satM xs hx hl 5 (by omega) (dr2 xs).1 (by omega))), rfl, rfl, rfl, rfl, ?_⟩ | refine ⟨[(lentId 0)], _, _, _, _, _, rfl, rfl, rfl, rfl, (sm_E13 (pick_satM xs hx hl 5 (by omega) (dr2 xs).1 (by omega))), rfl, rfl, ?_⟩
  conv => whnf
  repeat (first | (refine go_E13 ?_; conv => whnf) | (refine lk_E13 ?_; conv => whnf))
  rw [show IntKind.i64.wrap (2 + pkV xs 5 (dr2 xs).1) = drFew xs by rw [show pkV xs 5 (dr2 xs).1 = (dr3 xs).2 from rfl, w64 (by omega) (by omega)]; rfl]
  have hall : Sat Try.prog 58 [.ref false (roofD (drR0 xs)) 0] (placesD true (drG xs)) := by unfold drG; rw [← allP_true]; exact l01All_sat (drR0 xs) hin0 hb0
  first | refine ⟨_, _, rfl, sc_E13 (hall), ?_⟩ | refine .inl ⟨_, _, rfl, sc_E13 (hall), ?_⟩
  conv => whnf
  repeat (first | (refine go_E13 ?_; conv => whnf) | (refine lk_E13 ?_; conv => whnf))
  have hdl : (drG xs).length ≤ 72 := (gridP_size hb0).2
  have hdin : AllIn (drG xs) := gridP_in (by omega) (by omega)
  have hfew : 2 ≤ drFew xs ∧ drFew xs ≤ 6 := by unfold drFew; omega
  have hres : dwR xs = dwQ xs (drG xs) (drFew xs) (drR0 xs) (dr3 xs).1 (drG xs).length := rfl
  have hQ := fun i hi => dwQ_ok hx hok0 hin0 (few := drFew xs) (σ := (dr3 xs).1) i hi
  change ∀ i, i ≤ (drG xs).length → okR (dwQ xs (drG xs) (drFew xs) (drR0 xs) (dr3 xs).1 i).1 = true ∧ (dwQ xs (drG xs) (drFew xs) (drR0 xs) (dr3 xs).1 i).1.In at hQ
  have hat := dwQ_at xs (drG xs) (drFew xs) (drR0 xs) (dr3 xs).1
  rw [hres]
  have hno := fun i h => dwQ_no (xs := xs) (ps := drG xs) (few := drFew xs) (r := drR0 xs) (σ := (dr3 xs).1) (i := i) h
  have hyes := fun i h => dwQ_yes (xs := xs) (ps := drG xs) (few := drFew xs) (r := drR0 xs) (σ := (dr3 xs).1) (i := i) h
  have hz : dwQ xs (drG xs) (drFew xs) (drR0 xs) (dr3 xs).1 0 = (drR0 xs, (dr3 xs).1) := rfl
  generalize dwQ xs (drG xs) (drFew xs) (drR0 xs) (dr3 xs).1 = F at *
  generalize drG xs = ps at *
  refine loop_rule (α := Nat) (fun i => [(0, .ptr (lentId 0) 0), (2, .ptr (2, 0, 0) 0), (3, .ptr (3, 0, 0) 0), (4, .v (.int .i64 (drFew xs))), (5, .slc true 2 (22, 0, 0) 0 ps.length), (6, .v (.int .i64 i))]) (fun i => [(lentId 0, srcD xs (F i).2), ((2, 0, 0), .v (.agg ⟨[.int .i8 0, .int .i8 0] ++ List.replicate 65 (.int .u8 0)⟩)), ((3, 0, 0), roofD (F i).1), ((22, 0, 0), .v (.agg ⟨placesC ps⟩))]) (fun i => i ≤ ps.length) (fun i => ps.length - i) (0) ?_ (sim_of (rn := [((2, 0, 0), (2, 0, 0)), ((3, 0, 0), (3, 0, 0)), ((22, 0, 0), (22, 0, 0))]) rfl ?_ ?_) ?_
  · exact okt_E13
  · exact hold_E13
  · ((repeat' (first | exact trivial | apply And.intro)) <;> ((first | refine ⟨_, _, rfl, rfl, ?_⟩ ); first | rfl | (first | (rw [hz]; rfl) | (rw [hz]; exact vroof0S (by simp)))))
  intro i hi
  have hFi := hat i
  have hqo := hQ i hi
  conv => whnf
  repeat (first | (refine go_E13 ?_; conv => whnf) | (refine lk_E13 ?_; conv => whnf))
  cases h : decide ((i : Int) < (ps.length : Int))
  · have hin : i = ps.length := by simp at h; omega
    subst hin
    conv => whnf
    repeat (first | (refine go_E13 ?_; conv => whnf) | (refine lk_E13 ?_; conv => whnf))
    refine ⟨[], _, rfl, rfl, rfl, ?_, ?_, rfl⟩
    · (exact (roofD_copied (r := (F ps.length).1) (by simp)).symm)
    ((repeat' (first | exact trivial | apply And.intro)) <;> (refine ⟨_, rfl, ?_⟩; first | rfl | (rfl)))
  have hin : i < ps.length := by simpa using h
  have hqi := hdin i hin
  conv => whnf
  repeat (first | (refine go_E13 ?_; conv => whnf) | (refine lk_E13 ?_; conv => whnf))
  first | refine ⟨[(lentId 0)], _, _, _, _, _, _, _, _, rfl, rfl, rfl, rfl, (sm_E13 (one_satM xs hx hl (drFew xs) (by omega) (F i).2 (by omega))), rfl, rfl, rfl, rfl, ?_⟩ | refine .inr ⟨[(lentId 0)], _, _, _, _, _, _, _, _, rfl, rfl, rfl, rfl, (sm_E13 (one_satM xs hx hl (drFew xs) (by omega) (F i).2 (by omega))), rfl, rfl, rfl, rfl, ?_⟩ | refine ⟨[(lentId 0)], _, _, _, _, _, rfl, rfl, rfl, rfl, (sm_E13 (one_satM xs hx hl (drFew xs) (by omega) (F i).2 (by omega))), rfl, rfl, ?_⟩
  conv => whnf
  repeat (first | (refine go_E13 ?_; conv => whnf) | (refine lk_E13 ?_; conv => whnf))
  cases h2 : (pkV xs (drFew xs) (F i).2 == 0)
  · have h2' : ¬ pkV xs (drFew xs) (F i).2 = 0 := by simpa using h2
    have e := hno i h2'
    conv => whnf
    repeat (first | (refine go_E13 ?_; conv => whnf) | (refine lk_E13 ?_; conv => whnf))
    refine ⟨i + 1, ?_, ?_, sim_of (rn := [((2, 0, 0), (2, 0, 0)), ((3, 0, 0), (3, 0, 0)), ((22, 0, 0), (22, 0, 0))]) rfl ?_ ?_⟩
    · (dsimp only; omega)
    · exact okt_E13
    · exact hold_E13
    · ((repeat' (first | exact trivial | apply And.intro)) <;> ((first | refine ⟨_, _, rfl, rfl, ?_⟩ ); first | rfl | ((rw [e]; rfl))))
  have h2' : pkV xs (drFew xs) (F i).2 = 0 := by simpa using h2
  have e := hyes i h2'
  have hle := pkS_le xs (drFew xs) (F i).2
  have hp := pkV_in hx (n := 4) (by omega) (pkS xs (drFew xs) (F i).2)
  conv => whnf
  repeat (first | (refine go_E13 ?_; conv => whnf) | (refine lk_E13 ?_; conv => whnf))
  first | refine ⟨[(lentId 0)], _, _, _, _, _, _, _, _, rfl, rfl, rfl, rfl, (sm_E13 (pick_satM xs hx hl 4 (by omega) (pkS xs (drFew xs) (F i).2) (by omega))), rfl, rfl, rfl, rfl, ?_⟩ | refine .inr ⟨[(lentId 0)], _, _, _, _, _, _, _, _, rfl, rfl, rfl, rfl, (sm_E13 (pick_satM xs hx hl 4 (by omega) (pkS xs (drFew xs) (F i).2) (by omega))), rfl, rfl, rfl, rfl, ?_⟩ | refine ⟨[(lentId 0)], _, _, _, _, _, rfl, rfl, rfl, rfl, (sm_E13 (pick_satM xs hx hl 4 (by omega) (pkS xs (drFew xs) (F i).2) (by omega))), rfl, rfl, ?_⟩
  conv => whnf
  repeat (first | (refine go_E13 ?_; conv => whnf) | (refine lk_E13 ?_; conv => whnf))
  have setA := roof_set (r := (F i).1) (c := (nthP ps i).1) (k := (nthP ps i).2) (o := 0 + 3 + ((nthP ps i).1 : Int).toNat * 8 + ((nthP ps i).2 : Int).toNat * 1) (x := IntKind.u8.wrap (pkV xs 4 (pkS xs (drFew xs) (F i).2))) (by simp) hqi.1 hqi.2
  rw [wu8 (n := pkV xs 4 (pkS xs (drFew xs) (F i).2)) (by omega) (by omega)] at setA ⊢
  refine ⟨i + 1, ?_, ?_, sim_of (rn := [((2, 0, 0), (2, 0, 0)), ((3, 0, 0), (3, 0, 0)), ((22, 0, 0), (22, 0, 0))]) rfl ?_ ?_⟩
  · (dsimp only; omega)
  · exact okt_E13
  · exact hold_E13
  · ((repeat' (first | exact trivial | apply And.intro)) <;> ((first | refine ⟨_, _, rfl, rfl, ?_⟩ ); first | rfl | (first | (rw [e]; rfl) | (rw [e]; exact cset setA))))
theorem a2Roof_sat (xs : List Int) (hx : Bytes xs) (hl : xs.length ≤ 3000) (m : Bool) : Sat Try.prog 6 [u8D m xs] (roofD (dwR xs).1) := by
  refine sat_of_wp hMix tOk Try.func6 rfl rfl Try.ntmps6 rfl rfl Try.results6 (by kernel_rfl) ?_
  conv => whnf
  repeat (first | (refine go_E13 ?_; conv => whnf) | (refine lk_E13 ?_; conv => whnf))
  first | refine ⟨[], _, _, _, _, _, _, _, _, rfl, rfl, rfl, rfl, (sm_E13 (l00From_satM xs)), rfl, rfl, rfl, rfl, ?_⟩ | refine .inr ⟨[], _, _, _, _, _, _, _, _, rfl, rfl, rfl, rfl, (sm_E13 (l00From_satM xs)), rfl, rfl, rfl, rfl, ?_⟩ | refine ⟨[], _, _, _, _, _, rfl, rfl, rfl, rfl, (sm_E13 (l00From_satM xs)), rfl, rfl, ?_⟩
  conv => whnf
  repeat (first | (refine go_E13 ?_; conv => whnf) | (refine lk_E13 ?_; conv => whnf))
  first | refine ⟨[(4, 0, 0)], _, _, _, _, _, _, _, _, rfl, rfl, rfl, rfl, (sm_E13 (l01Drawn_satM xs hx hl)), rfl, rfl, rfl, rfl, ?_⟩ | refine .inr ⟨[(4, 0, 0)], _, _, _, _, _, _, _, _, rfl, rfl, rfl, rfl, (sm_E13 (l01Drawn_satM xs hx hl)), rfl, rfl, rfl, rfl, ?_⟩ | refine ⟨[(4, 0, 0)], _, _, _, _, _, rfl, rfl, rfl, rfl, (sm_E13 (l01Drawn_satM xs hx hl)), rfl, rfl, ?_⟩
  conv => whnf
  repeat (first | (refine go_E13 ?_; conv => whnf) | (refine lk_E13 ?_; conv => whnf))
  first | refine ⟨rfl, _, rfl, ?_⟩ | refine ⟨_, rfl, ?_⟩
  skip
  exact (roofD_copied (r := (dwR xs).1) (xs := [.int .i8 0, .int .i8 0] ++ List.replicate 65 (.int .u8 0)) (by simp)).symm.trans (by rw [take_drop0 (n := 67) (xs := roofC (dwR xs).1) (by simp)]; rfl)
theorem l02Drawn_satM (xs : List Int) (hx : Bytes xs) (hl : xs.length ≤ 3000) (r : Roof) (hr : r.In) (hb : Rb r) :
    SatM Try.prog 73 [.ptr (lentId 0) 0, .ptr (lentId 1) 0] [srcD xs s0, roofD r] (raiD (rnR xs r).1) [some (srcD xs (rnR xs r).2), some (roofD r)] [] := by
  have hp0 := pkV_in hx (n := 30) (by omega) s0
  have hle0 : (pkS xs 30 s0).1 ≤ 1 := by have := pkS_le xs 30 s0; exact this
  have hle1 : (pkS xs 2 (pkS xs 30 s0)).1 ≤ 2 := by have := pkS_le xs 2 (pkS xs 30 s0); omega
  have hres : rnR xs r = rnQ xs (pkV xs 30 s0) (pkV xs 2 (pkS xs 30 s0) == 0) (pkS xs 2 (pkS xs 30 s0)) (2 * r.w + 1).toNat := rfl
  rw [hres]
  have hat := rnQ_at xs (pkV xs 30 s0) (pkV xs 2 (pkS xs 30 s0) == 0) (pkS xs 2 (pkS xs 30 s0))
  have hnx := fun i => rnQ_next (xs := xs) (even := pkV xs 30 s0) (many := pkV xs 2 (pkS xs 30 s0) == 0) (σ := pkS xs 2 (pkS xs 30 s0)) (i := i)
  have hz : rnQ xs (pkV xs 30 s0) (pkV xs 2 (pkS xs 30 s0) == 0) (pkS xs 2 (pkS xs 30 s0)) 0 = (fun _ => 0, pkS xs 2 (pkS xs 30 s0)) := rfl
  generalize rnQ xs (pkV xs 30 s0) (pkV xs 2 (pkS xs 30 s0) == 0) (pkS xs 2 (pkS xs 30 s0)) = F at *
  refine satM_of_wp hMix tOk Try.func73 rfl rfl Try.ntmps73 rfl rfl Try.results73 (by kernel_rfl) ?_
  conv => whnf
  repeat (first | (refine go_E13 ?_; conv => whnf) | (refine lk_E13 ?_; conv => whnf))
  first | refine ⟨[(lentId 0)], _, _, _, _, _, _, _, _, rfl, rfl, rfl, rfl, (sm_E13 (pick_satM xs hx hl 30 (by omega) s0 (by show 0 ≤ 1000000; omega))), rfl, rfl, rfl, rfl, ?_⟩ | refine .inr ⟨[(lentId 0)], _, _, _, _, _, _, _, _, rfl, rfl, rfl, rfl, (sm_E13 (pick_satM xs hx hl 30 (by omega) s0 (by show 0 ≤ 1000000; omega))), rfl, rfl, rfl, rfl, ?_⟩ | refine ⟨[(lentId 0)], _, _, _, _, _, rfl, rfl, rfl, rfl, (sm_E13 (pick_satM xs hx hl 30 (by omega) s0 (by show 0 ≤ 1000000; omega))), rfl, rfl, ?_⟩
  conv => whnf
  repeat (first | (refine go_E13 ?_; conv => whnf) | (refine lk_E13 ?_; conv => whnf))
  first | refine ⟨[(lentId 0)], _, _, _, _, _, _, _, _, rfl, rfl, rfl, rfl, (sm_E13 (one_satM xs hx hl 2 (by omega) (pkS xs 30 s0) (by omega))), rfl, rfl, rfl, rfl, ?_⟩ | refine .inr ⟨[(lentId 0)], _, _, _, _, _, _, _, _, rfl, rfl, rfl, rfl, (sm_E13 (one_satM xs hx hl 2 (by omega) (pkS xs 30 s0) (by omega))), rfl, rfl, rfl, rfl, ?_⟩ | refine ⟨[(lentId 0)], _, _, _, _, _, rfl, rfl, rfl, rfl, (sm_E13 (one_satM xs hx hl 2 (by omega) (pkS xs 30 s0) (by omega))), rfl, rfl, ?_⟩
  conv => whnf
  repeat (first | (refine go_E13 ?_; conv => whnf) | (refine lk_E13 ?_; conv => whnf))
  generalize (pkV xs 2 (pkS xs 30 s0) == 0) = many at *
  refine loop_rule (α := Nat) (fun i => [(0, .ptr (lentId 0) 0), (1, .ptr (lentId 1) 0), (4, .ptr (4, 0, 0) 0), (5, .ptr (5, 0, 0) 0), (6, .v (.int .i64 (pkV xs 30 s0))), (7, .v (.bool many)), (8, .v (.int .i64 i))]) (fun i => [(lentId 0, srcD xs (F i).2), (lentId 1, roofD r), ((4, 0, 0), .v (.agg ⟨List.replicate 17 (.int .i16 0)⟩)), ((5, 0, 0), raiD (F i).1)]) (fun i => i ≤ (2 * r.w + 1).toNat) (fun i => (2 * r.w + 1).toNat - i) (0) ?_ (sim_of (rn := [((4, 0, 0), (4, 0, 0)), ((5, 0, 0), (5, 0, 0))]) rfl ?_ ?_) ?_
  · exact okt_E13
  · exact hold_E13
  · ((repeat' (first | exact trivial | apply And.intro)) <;> ((first | refine ⟨_, _, rfl, rfl, ?_⟩ ); first | rfl | (first | (rw [hz]; rfl) | (rw [hz]; exact vrai0S (by simp)))))
  intro i hi
  have hFi := hat i
  have e := hnx i
  conv => whnf
  repeat (first | (refine go_E13 ?_; conv => whnf) | (refine lk_E13 ?_; conv => whnf))
  first | refine ⟨_, _, rfl, sc_E13 (l01Cells_sat r hr hb), ?_⟩ | refine .inl ⟨_, _, rfl, sc_E13 (l01Cells_sat r hr hb), ?_⟩
  conv => whnf
  repeat (first | (refine go_E13 ?_; conv => whnf) | (refine lk_E13 ?_; conv => whnf))
  cases h : decide ((i : Int) < 2 * r.w + 1)
  · have hin : i = (2 * r.w + 1).toNat := by simp at h; omega
    subst hin
    conv => whnf
    repeat (first | (refine go_E13 ?_; conv => whnf) | (refine lk_E13 ?_; conv => whnf))
    refine ⟨[], _, rfl, rfl, rfl, ?_, ?_, rfl⟩
    · (exact congrArg (fun l => D.v (.agg ⟨l⟩)) (copied (n := 17) (ys := raiC (F (2 * r.w + 1).toNat).1) (by simp) (by simp)).symm)
    ((repeat' (first | exact trivial | apply And.intro)) <;> (refine ⟨_, rfl, ?_⟩; first | rfl | (rfl)))
  have hin : (i : Int) < 2 * r.w + 1 := by simpa using h
  have hp := pkV_in hx (n := 30) (by omega) (F i).2
  conv => whnf
  repeat (first | (refine go_E13 ?_; conv => whnf) | (refine lk_E13 ?_; conv => whnf))
  rw [show IntKind.i16.wrap (pkV xs 30 s0) = pkV xs 30 s0 from w16 (by omega) (by omega)]
  cases many
  · have setA := rai_set (w := (F i).1) (c := i) (o := 0 + (i : Int).toNat * 1) (x := pkV xs 30 s0) (by simp)
    simp only [Bool.false_eq_true, if_false] at e
    conv => whnf
    repeat (first | (refine go_E13 ?_; conv => whnf) | (refine lk_E13 ?_; conv => whnf))
    refine ⟨i + 1, ?_, ?_, sim_of (rn := [((4, 0, 0), (4, 0, 0)), ((5, 0, 0), (5, 0, 0))]) rfl ?_ ?_⟩
    · (dsimp only; omega)
    · exact okt_E13
    · exact hold_E13
    · ((repeat' (first | exact trivial | apply And.intro)) <;> ((first | refine ⟨_, _, rfl, rfl, ?_⟩ ); first | rfl | (first | (rw [e]; rfl) | (rw [e]; exact cset setA))))
  simp only [if_true] at e
  conv => whnf
  repeat (first | (refine go_E13 ?_; conv => whnf) | (refine lk_E13 ?_; conv => whnf))
  first | refine ⟨[(lentId 0)], _, _, _, _, _, _, _, _, rfl, rfl, rfl, rfl, (sm_E13 (pick_satM xs hx hl 30 (by omega) (F i).2 (by omega))), rfl, rfl, rfl, rfl, ?_⟩ | refine .inr ⟨[(lentId 0)], _, _, _, _, _, _, _, _, rfl, rfl, rfl, rfl, (sm_E13 (pick_satM xs hx hl 30 (by omega) (F i).2 (by omega))), rfl, rfl, rfl, rfl, ?_⟩ | refine ⟨[(lentId 0)], _, _, _, _, _, rfl, rfl, rfl, rfl, (sm_E13 (pick_satM xs hx hl 30 (by omega) (F i).2 (by omega))), rfl, rfl, ?_⟩
  conv => whnf
  repeat (first | (refine go_E13 ?_; conv => whnf) | (refine lk_E13 ?_; conv => whnf))
  rw [show IntKind.i16.wrap (pkV xs 30 (F i).2) = pkV xs 30 (F i).2 from w16 (by omega) (by omega)]
  have setA : ((raiC (F i).1).set (0 + (i : Int).toNat * 1) (.int .i16 (pkV xs 30 s0))).set (0 + (i : Int).toNat * 1) (.int .i16 (pkV xs 30 (F i).2)) = raiC (putW (F i).1 i (pkV xs 30 (F i).2)) := by
    rw [List.set_set, rai_set (c := i) (by simp)]
  refine ⟨i + 1, ?_, ?_, sim_of (rn := [((4, 0, 0), (4, 0, 0)), ((5, 0, 0), (5, 0, 0))]) rfl ?_ ?_⟩
  · (dsimp only; omega)
  · exact okt_E13
  · exact hold_E13
  · ((repeat' (first | exact trivial | apply And.intro)) <;> ((first | refine ⟨_, _, rfl, rfl, ?_⟩ ); first | rfl | (first | (rw [e]; rfl) | (rw [e]; exact cset setA))))
theorem a2Rain_sat (xs : List Int) (hx : Bytes xs) (hl : xs.length ≤ 3000) (r : Roof) (hr : r.In) (hb : Rb r) (m : Bool) : Sat Try.prog 27 [u8D m xs, roofD r] (raiD (rnR xs r).1) := by
  refine sat_of_wp hMix tOk Try.func27 rfl rfl Try.ntmps27 rfl rfl Try.results27 (by kernel_rfl) ?_
  conv => whnf
  repeat (first | (refine go_E13 ?_; conv => whnf) | (refine lk_E13 ?_; conv => whnf))
  first | refine ⟨[], _, _, _, _, _, _, _, _, rfl, rfl, rfl, rfl, (sm_E13 (l00From_satM xs)), rfl, rfl, rfl, rfl, ?_⟩ | refine .inr ⟨[], _, _, _, _, _, _, _, _, rfl, rfl, rfl, rfl, (sm_E13 (l00From_satM xs)), rfl, rfl, rfl, rfl, ?_⟩ | refine ⟨[], _, _, _, _, _, rfl, rfl, rfl, rfl, (sm_E13 (l00From_satM xs)), rfl, rfl, ?_⟩
  conv => whnf
  repeat (first | (refine go_E13 ?_; conv => whnf) | (refine lk_E13 ?_; conv => whnf))
  first | refine ⟨[(6, 0, 0), (3, 0, 0)], _, _, _, _, _, _, _, _, rfl, rfl, rfl, rfl, (sm_E13 (l02Drawn_satM xs hx hl r hr hb)), rfl, rfl, rfl, rfl, ?_⟩ | refine .inr ⟨[(6, 0, 0), (3, 0, 0)], _, _, _, _, _, _, _, _, rfl, rfl, rfl, rfl, (sm_E13 (l02Drawn_satM xs hx hl r hr hb)), rfl, rfl, rfl, rfl, ?_⟩ | refine ⟨[(6, 0, 0), (3, 0, 0)], _, _, _, _, _, rfl, rfl, rfl, rfl, (sm_E13 (l02Drawn_satM xs hx hl r hr hb)), rfl, rfl, ?_⟩
  conv => whnf
  repeat (first | (refine go_E13 ?_; conv => whnf) | (refine lk_E13 ?_; conv => whnf))
  first | refine ⟨rfl, _, rfl, ?_⟩ | refine ⟨_, rfl, ?_⟩
  skip
  exact (vsplice (n := 17) (xs := List.replicate 17 (.int .i16 0)) (ys := raiC (rnR xs r).1) (by simp) (by simp)).symm
end Go.Proofs.Ytecjkbgepbefcaa
/- Contracts: what the laws ask of lists, of places and of roofs. -/
set_option linter.unusedVariables false
set_option linter.unusedSimpArgs false
namespace Go.V
/- Words for the walks of this text: their default arguments are tried where they are used. -/
theorem go_E14 {P Q : Prop} (k : Q) (h : P := by first | exact Nat.le_of_ble_eq_true rfl | exact trivial | exact rfl | decide | omega | (simp [splice]; done) | (constructor <;> omega) | (simp [splice]; omega)) : P ∧ Q := ⟨h, k⟩
theorem lk_E14 {α : Type} {o : Option α} {K : α → Prop} {x : α} (k : K x) (h : o = some x := by first | exact u8A (by omega) | exact u8A' (by omega) | exact intA (by omega) | exact intA' (by omega)) : optK o K := optK_of h k
theorem sc_E14 {P : Program} {g : FuncId} {args args' : List D} {res : D} (h : Sat P g args res) (e : args' = args := by repeat (first | rfl | exact vfull (by first | (simp [splice]; done) | (simp [splice]; omega)) | exact rfull (by first | (simp [splice]; done) | (simp [splice]; omega)) | exact vplace (by simp; done) (by omega) | exact vsplice (by simp) (by simp) | refine ceq ?_ ?_ | refine Eq.trans (vsplice (by first | (simp; done) | (simp; omega)) (by first | (simp; done) | (simp; omega))) ?_)) : Sat P g args' res := Sat.of_eq h e
theorem hold_E14 {P : Prop} (h : P := by (repeat' (first | exact trivial | apply And.intro)) <;> (first | rfl | exact succ8 (by omega) | exact succ64 (by omega) | exact CapOk.fn (by assumption) _ _ | exact vintS (by omega) | exact vintS (by rw [w64 (by omega) (by omega)]; omega) | exact vintS (by rw [w8 (by omega) (by omega)]; omega) | exact vslcS (by omega) | exact vslcS (by simp))) : P := h
theorem okt_E14 {P : Prop} (h : P := by first | omega | (dsimp only; omega) | ((repeat' apply And.intro) <;> omega) | (dsimp only; (repeat' apply And.intro) <;> omega) | trivial) : P := h
end Go.V
namespace Go.V
def atV (xs : List Int) (i : Nat) (n : Int) : Int := if xs.length ≤ i then 0 else (ix xs i).tmod n
theorem atV_in {xs : List Int} (h : Bytes xs) (i : Nat) {n : Int} (hn : 1 ≤ n) : 0 ≤ atV xs i n ∧ atV xs i n < n := by
  unfold atV
  split
  · omega
  · have := h i (by omega)
    have e : (ix xs i).tmod n = ix xs i % n := Int.tmod_eq_emod_of_nonneg this.1
    rw [e]
    exact ⟨Int.emod_nonneg _ (by omega), Int.emod_lt_of_pos _ (by omega)⟩
theorem eqPl_iff {q q' : Pl} (h : q.1 < 8 ∧ q.2 < 8) (h' : q'.1 < 8 ∧ q'.2 < 8) : decide (q = q') = true ↔ [Value.int .i8 q.1, Value.int .i8 q.2] = [Value.int .i8 q'.1, Value.int .i8 q'.2] := by
  rw [decide_eq_true_iff, Prod.ext_iff]
  simp only [List.cons.injEq, Value.int.injEq, true_and, and_true]
  omega
end Go.V
namespace Go.Proofs.Ytecjkbgepbefcaa
open Go.V
theorem a2Long_sat (xs ys : List Int) (m m' : Bool) : Sat Try.prog 5 [u8D m xs, u8D m' ys] (.v (.bool (decide ((xs.length : Int) > 3000) || decide ((ys.length : Int) > 3000)))) := by
  refine sat_of_wp hMix tOk Try.func5 rfl rfl Try.ntmps5 rfl rfl Try.results5 (by kernel_rfl) ?_
  conv => whnf
  repeat (first | (refine go_E14 ?_; conv => whnf) | (refine lk_E14 ?_; conv => whnf))
  cases h : decide ((xs.length : Int) > 3000)
  · conv => whnf
    repeat (first | (refine go_E14 ?_; conv => whnf) | (refine lk_E14 ?_; conv => whnf))
    first | refine ⟨rfl, _, rfl, ?_⟩ | refine ⟨_, rfl, ?_⟩
    rfl
  · conv => whnf
    repeat (first | (refine go_E14 ?_; conv => whnf) | (refine lk_E14 ?_; conv => whnf))
    first | refine ⟨rfl, _, rfl, ?_⟩ | refine ⟨_, rfl, ?_⟩
    rfl
theorem a2At_sat (xs : List Int) (hx : Bytes xs) (hl : xs.length ≤ 3000) (i : Nat) (hi : i ≤ 10) (n : Int) (hn : 1 ≤ n ∧ n ≤ 1000) (m : Bool) : Sat Try.prog 8 [u8D m xs, .v (.int .i64 i), .v (.int .i64 n)] (.v (.int .i64 (atV xs i n))) := by
  have hne : n ≠ 0 := by omega
  refine sat_of_wp hMix tOk Try.func8 rfl rfl Try.ntmps8 rfl rfl Try.results8 (by kernel_rfl) ?_
  conv => whnf
  repeat (first | (refine go_E14 ?_; conv => whnf) | (refine lk_E14 ?_; conv => whnf))
  cases h : decide ((i : Int) ≥ (xs.length : Int))
  case true =>
    have h' : xs.length ≤ i := by simp at h; omega
    rw [show atV xs i n = 0 by unfold atV; rw [if_pos h']]
    conv => whnf
    repeat (first | (refine go_E14 ?_; conv => whnf) | (refine lk_E14 ?_; conv => whnf))
    first | refine ⟨rfl, _, rfl, ?_⟩ | refine ⟨_, rfl, ?_⟩
    rfl
  have h' : ¬ xs.length ≤ i := by simp at h; omega
  have hb := hx i (by omega)
  rw [show atV xs i n = (ix xs i).tmod n by unfold atV; rw [if_neg h']]
  conv => whnf
  repeat (first | (refine go_E14 ?_; conv => whnf) | (refine lk_E14 ?_; conv => whnf))
  rw [show decide (n < 1) = false by simp; omega]
  conv => whnf
  repeat (first | (refine go_E14 ?_; conv => whnf) | (refine lk_E14 ?_; conv => whnf))
  rw [show IntKind.i64.wrap (ix xs i) = ix xs i from w64 (by omega) (by omega)]
  conv => whnf
  repeat (first | (refine go_E14 ?_; conv => whnf) | (refine lk_E14 ?_; conv => whnf))
  have hq : (ix xs i).tmod n = ix xs i % n := Int.tmod_eq_emod_of_nonneg hb.1
  first | refine ⟨rfl, _, rfl, ?_⟩ | refine ⟨_, rfl, ?_⟩
  rfl
theorem eqAgg_place {q q' : Pl} (h : q.1 < 8 ∧ q.2 < 8) (h' : q'.1 < 8 ∧ q'.2 < 8) {xs ys : List Value} (hx : xs = [.int .i8 q.1, .int .i8 q.2]) (hy : ys = [.int .i8 q'.1, .int .i8 q'.2]) : EqAgg Try.prog 37 xs ys (decide (q = q')) := by
  subst hx hy
  have hc : Program.cellsOf Try.prog 37 = 2 := by kernel_rfl
  have hc1 : Program.cellsOf Try.prog 24 = 1 := by kernel_rfl
  have hu1 : Program.underlying Try.prog 24 = some (.int .i8) := Try.underlying24
  have wf : ∀ n : Nat, n < 8 → (Lit.int .i8 (n : Int)).wf = true := fun n hn => by
    simp [Lit.wf, IntKind.min, IntKind.max, IntKind.bits, IntKind.signed]; omega
  have fm : ∀ q : Pl, Value.formed Try.prog 37 (.agg ⟨[.int .i8 q.1, .int .i8 q.2]⟩) = true := by
    intro q
    unfold Value.formed
    rw [Try.underlying37]
    simp [hc]
  have cells : ∀ q : Pl, q.1 < 8 ∧ q.2 < 8 → ∀ x ∈ [Value.int .i8 q.1, Value.int .i8 q.2], IntCell x := by
    intro q hq x hx
    simp only [List.mem_cons, List.not_mem_nil, or_false] at hx
    rcases hx with rfl | rfl
    · exact wf _ hq.1
    · exact wf _ hq.2
  have kl : ∀ q : Pl, q.1 < 8 ∧ q.2 < 8 → Program.keyLits Try.prog 2 37 [.int .i8 q.1, .int .i8 q.2] = some (litsOf [.int .i8 q.1, .int .i8 q.2]) := fun q hq => by
    refine keyLits_struct (d := 1) Try.underlying37 (by rw [hc]; rfl) (by kernel_rfl) (fun f hf => ?_) ?_
    · simp only [List.mem_cons, List.not_mem_nil, or_false] at hf
      rcases hf with rfl | rfl
      · rw [hc1]; exact Go.V.keyLits_int (P := Try.prog) (d := 0) (e := 24) (k := .i8) (z := q.1) hu1 (wf _ hq.1)
      · rw [hc1]; exact Go.V.keyLits_int (P := Try.prog) (d := 0) (e := 24) (k := .i8) (z := q.2) hu1 (wf _ hq.2)
    · simp [hc1]
  exact eqAgg_of (m := 3) (by omega) (by kernel_rfl) (by kernel_rfl) (fm q) (fm q') (kl q h) (kl q' h') (cells q h) (cells q' h') (eqPl_iff h h')
theorem eqAgg_roof2 {r r' : Roof} (hr0 : r.In) (hr0' : r'.In) {xs ys : List Value} (hx : xs = roofC r) (hy : ys = roofC r') {b : Bool} (hbe : b = true ↔ roofC r = roofC r') : EqAgg Try.prog 28 xs ys b := by
  subst hx hy
  have hc : Program.cellsOf Try.prog 28 = 67 := by kernel_rfl
  have hc1 : Program.cellsOf Try.prog 24 = 1 := by kernel_rfl
  have hu1 : Program.underlying Try.prog 24 = some (.int .i8) := Try.underlying24
  have hc2 : Program.cellsOf Try.prog 5 = 1 := by kernel_rfl
  have hu2 : Program.underlying Try.prog 5 = some (.int .u8) := Try.underlying5
  have hc3 : Program.cellsOf Try.prog 26 = 64 := by kernel_rfl
  have hc4 : Program.cellsOf Try.prog 25 = 8 := by kernel_rfl
  have wf8 : ∀ n : Int, -128 ≤ n ∧ n ≤ 127 → (Lit.int .i8 n).wf = true := fun n hn => by
    simp [Lit.wf, IntKind.min, IntKind.max, IntKind.bits, IntKind.signed]; omega
  have wfu : ∀ n : Int, 0 ≤ n ∧ n ≤ 255 → (Lit.int .u8 n).wf = true := fun n hn => by
    simp [Lit.wf, IntKind.min, IntKind.max, IntKind.bits, IntKind.signed]; omega
  have gfit : ∀ (r : Roof), r.In → ∀ (i : Nat) (x : Value), (grid r.t)[i]? = some x → ∃ z, x = Value.int .u8 z ∧ (Lit.int .u8 z).wf = true := by
    intro r hr i x hx
    unfold grid at hx
    by_cases hi : i < 64
    · rw [tab_get hi] at hx
      simp only [Option.some.injEq] at hx
      subst hx
      exact ⟨_, rfl, wfu _ (hr.t _ _)⟩
    · rw [tab_none (by omega)] at hx; cases hx
  have fm : ∀ r : Roof, Value.formed Try.prog 28 (.agg ⟨roofC r⟩) = true := by
    intro r
    unfold Value.formed
    rw [Try.underlying28]
    simp [hc]
  have cells : ∀ r : Roof, r.In → ∀ x ∈ roofC r, IntCell x := by
    intro r hr x hx
    unfold roofC at hx
    simp only [List.mem_cons] at hx
    rcases hx with rfl | rfl | rfl | hx
    · exact wf8 _ hr.w
    · exact wf8 _ hr.h
    · exact wfu _ hr.s
    · obtain ⟨i, hi⟩ := List.getElem?_of_mem hx
      obtain ⟨z, rfl, hz⟩ := gfit r hr i x hi
      exact hz
  have kg : ∀ r : Roof, r.In → Program.keyLits Try.prog 3 26 (grid r.t) = some (litsOf (grid r.t)) := by
    intro r hr
    refine keyLits_array (d := 2) Try.underlying26 (by rw [hc3, hc4]) (by rw [hc4]; simp) fun i hi => ?_
    rw [hc4]
    refine keyLits_ints (d := 0) Try.underlying25 Try.underlying5 (by kernel_rfl) hc4 (by simp; omega) fun j x hx => ?_
    rw [List.getElem?_take] at hx
    split at hx
    · rw [List.getElem?_drop] at hx; exact gfit r hr _ x hx
    · cases hx
  have kl : ∀ r : Roof, r.In → Program.keyLits Try.prog 4 28 (roofC r) = some (litsOf (roofC r)) := by
    intro r hr
    refine keyLits_struct (d := 3) Try.underlying28 (by rw [hc]; simp) (by kernel_rfl) (fun f hf => ?_) ?_
    · simp only [List.mem_cons, List.not_mem_nil, or_false] at hf
      rcases hf with rfl | rfl | rfl | rfl
      · rw [hc1]; exact Go.V.keyLits_int (P := Try.prog) (d := 2) (e := 24) (k := .i8) (z := r.w) hu1 (wf8 _ hr.w)
      · rw [hc1]; exact Go.V.keyLits_int (P := Try.prog) (d := 2) (e := 24) (k := .i8) (z := r.h) hu1 (wf8 _ hr.h)
      · rw [hc2]; exact Go.V.keyLits_int (P := Try.prog) (d := 2) (e := 5) (k := .u8) (z := r.s) hu2 (wfu _ hr.s)
      · rw [hc3]
        have e : ((roofC r).drop 3).take 64 = grid r.t := by unfold roofC; simp [take_full]
        show Program.keyLits Try.prog 3 26 (((roofC r).drop 3).take 64) = some (litsOf (((roofC r).drop 3).take 64))
        rw [e]; exact kg r hr
    · unfold roofC; simp [hc1, hc2, hc3, take_full]
  exact eqAgg_of (m := 4) (by omega) (by kernel_rfl) (by kernel_rfl) (fm r) (fm r') (kl r hr0) (kl r' hr0') (cells r hr0) (cells r' hr0') hbe
theorem samePlaces_sat (ps : List Pl) (hl : ps.length ≤ 4096) (hin : AllIn ps) (m m' : Bool) : Sat Try.prog 19 [placesD m ps, placesD m' ps] (.v (.bool true)) := by
  refine sat_of_wp hMix tOk Try.func19 rfl rfl Try.ntmps19 rfl rfl Try.results19 (by kernel_rfl) ?_
  conv => whnf
  repeat (first | (refine go_E14 ?_; conv => whnf) | (refine lk_E14 ?_; conv => whnf))
  rw [show ((ps.length : Int) != (ps.length : Int)) = false by simp]
  conv => whnf
  repeat (first | (refine go_E14 ?_; conv => whnf) | (refine lk_E14 ?_; conv => whnf))
  refine loop_rule (α := Nat) (fun i => [(0, placesD m ps), (1, placesD m' ps), (5, .v (.int .i64 i))]) (fun i => []) (fun i => i ≤ ps.length) (fun i => ps.length - i) (0) ?_ (sim_of (rn := []) rfl ?_ ?_) ?_
  · exact okt_E14
  · exact hold_E14
  · ((repeat' (first | exact trivial | apply And.intro)) <;> ((first | refine ⟨_, _, rfl, rfl, ?_⟩ ); rfl))
  intro i hi
  conv => whnf
  repeat (first | (refine go_E14 ?_; conv => whnf) | (refine lk_E14 ?_; conv => whnf))
  cases h : decide ((i : Int) < (ps.length : Int))
  · conv => whnf
    repeat (first | (refine go_E14 ?_; conv => whnf) | (refine lk_E14 ?_; conv => whnf))
    first | refine ⟨rfl, _, rfl, ?_⟩ | refine ⟨_, rfl, ?_⟩
    rfl
  have hi2 : i < ps.length := by simpa using h
  conv => whnf
  repeat (first | (refine go_E14 ?_; conv => whnf) | (refine lk_E14 ?_; conv => whnf))
  refine ⟨_, eqAgg_place (hin i hi2) (hin i hi2) (place_load (by simp) hi2) (place_load (by simp) hi2), ?_⟩
  rw [show decide (nthP ps i = nthP ps i) = true by simp]
  conv => whnf
  repeat (first | (refine go_E14 ?_; conv => whnf) | (refine lk_E14 ?_; conv => whnf))
  refine ⟨i + 1, ?_, ?_, sim_of (rn := []) rfl ?_ ?_⟩
  · (dsimp only; omega)
  · exact okt_E14
  · exact hold_E14
  · ((repeat' (first | exact trivial | apply And.intro)) <;> ((first | refine ⟨_, _, rfl, rfl, ?_⟩ ); rfl))
theorem a2Places_sat (r : Roof) (hr : r.In) (hb : Rb r) : Sat Try.prog 21 [roofD r] (placesD true (gridP r.w.toNat r.h.toNat)) := by
  have hall : Sat Try.prog 58 [.ref false (roofD r) 0] (placesD true (gridP r.w.toNat r.h.toNat)) := by rw [← allP_true]; exact l01All_sat r hr hb
  refine sat_of_wp hMix tOk Try.func21 rfl rfl Try.ntmps21 rfl rfl Try.results21 (by kernel_rfl) ?_
  conv => whnf
  repeat (first | (refine go_E14 ?_; conv => whnf) | (refine lk_E14 ?_; conv => whnf))
  first | refine ⟨_, _, rfl, sc_E14 (hall), ?_⟩ | refine .inl ⟨_, _, rfl, sc_E14 (hall), ?_⟩
  conv => whnf
  repeat (first | (refine go_E14 ?_; conv => whnf) | (refine lk_E14 ?_; conv => whnf))
  first | refine ⟨rfl, _, rfl, ?_⟩ | refine ⟨_, rfl, ?_⟩
  rfl
end Go.Proofs.Ytecjkbgepbefcaa
