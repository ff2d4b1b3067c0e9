import Derived.Test.YtcnenmcagkbppaaP5
import Derived.Test.YtcnenmcagkbppaaW7
set_option linter.unusedVariables false
set_option linter.unusedSimpArgs false
/- The law on pipes: the fewest pipes. -/
set_option linter.unusedVariables false
set_option linter.unusedSimpArgs false
set_option maxRecDepth 4000
namespace Go.V
/- Words for the walks of this text: their default arguments are tried where they are used. -/
theorem go_E49 {P Q : Prop} (k : Q) (h : P := by first | exact Nat.le_of_ble_eq_true rfl | exact trivial | exact rfl | decide | omega | (simp [splice]; done) | (constructor <;> omega) | (simp [splice]; omega)) : P ∧ Q := ⟨h, k⟩
theorem lk_E49 {α : Type} {o : Option α} {K : α → Prop} {x : α} (k : K x) (h : o = some x := by first | exact u8A (by omega) | exact u8A' (by omega) | exact hDA (by omega) | exact hDA' (by omega) | exact gutA (by omega) | exact pipeA (by omega) | exact pipeB (by omega) | exact pipeSA (by omega) | exact pipeSB (by omega) | exact intA (by omega) | exact intA' (by omega)) : optK o K := optK_of h k
theorem sc_E49 {P : Program} {g : FuncId} {args args' : List D} {res : D} (h : Sat P g args res) (e : args' = args := by repeat (first | rfl | exact vfull (by first | (simp [splice]; done) | (simp [splice]; omega)) | exact rfull (by first | (simp [splice]; done) | (simp [splice]; omega)) | exact vzero17 | exact vpipe (by simp; done) (by omega) | exact vsplice (by simp) (by simp) | refine ceq ?_ ?_ | refine Eq.trans (vsplice (by first | (simp; done) | (simp; omega)) (by first | (simp; done) | (simp; omega))) ?_)) : Sat P g args' res := Sat.of_eq h e
theorem hold_E49 {P : Prop} (h : P := by (repeat' (first | exact trivial | apply And.intro)) <;> (first | rfl | exact succ8 (by omega) | exact succ64 (by omega) | exact CapOk.fn (by assumption) _ _ | exact vintS (by omega) | exact vintS (by rw [w64 (by omega) (by omega)]; omega) | exact vintS (by rw [w8 (by omega) (by omega)]; omega) | exact vslcS (by omega) | exact vslcS (by simp))) : P := h
theorem okt_E49 {P : Prop} (h : P := by first | omega | (dsimp only; omega) | ((repeat' apply And.intro) <;> omega) | (dsimp only; (repeat' apply And.intro) <;> omega) | trivial) : P := h
end Go.V
namespace Go.Proofs.Ytcnenmcagkbppaa
open Go.V
set_option maxHeartbeats 4000000 in
theorem pipes31 (g : Gut) (hok : okG g = true) (hg : g.In) (hn9 : g.n ≤ 9) (ys : List Int) (hy : Bytes ys) (hyl : ys.length ≤ 4096) (rs : List Int) (hr : rainB g rs = true) (L : List Nat) (hLm : ∀ c ∈ L, (c : Int) < g.n) (hLs : L.Pairwise (· < ·)) (hLd : unL (onP g L) = [])
    (hLw : ∀ {L' : List Nat} {c : Nat}, c ∈ L → c ∉ L' → 0 < (unL (onP g L')).length) (hLl : L.length ≤ 17) : cuts Try.prog tt [2, 4] (tailC 13 (codeOf Try.func3)) (bodyQ tt #[ResultVar.tmp 4].toList (.v (.bool true))) (stOf [(1, u8D false ys), (5, .ptr (5, 0, 0) 0), (6, .slc true 1 (77, 0, 0) 0 rs.length), (13, .slc true 1 (95, 0, 0) 0 (toI L).length), (19, .v (.int .i64 (g.n.toNat : Nat)))] [((5, 0, 0), gutD true g), ((77, 0, 0), .v (.agg ⟨intsC rs⟩)), ((95, 0, 0), .v (.agg ⟨intsC (toI L)⟩))]) := by
  have ho := okG_ok hok
  have hn := ho.n
  have hpl := ho.len
  have hrx := rainB_ok hr
  have hrl := hrx.len
  have en : IntKind.i64.wrap g.n = g.n := w64 (by omega) (by omega)
  conv => whnf
  repeat (first | (refine go_E49 ?_; conv => whnf) | (refine lk_E49 ?_; conv => whnf))
  rw [en, show (((g.n.toNat : Nat) : Int) != g.n) = false by simp; omega]
  conv => whnf
  repeat (first | (refine go_E49 ?_; conv => whnf) | (refine lk_E49 ?_; conv => whnf))
  cases h4 : decide (((toI L).length : Int) ≤ 4)
  · conv => whnf
    repeat (first | (refine go_E49 ?_; conv => whnf) | (refine lk_E49 ?_; conv => whnf))
    refine ⟨stOf [(1, u8D false ys), (5, .ptr (5, 0, 0) 0), (6, .slc true 1 (77, 0, 0) 0 rs.length)] [((5, 0, 0), gutD true g), ((77, 0, 0), .v (.agg ⟨intsC rs⟩))], sim_of (rn := [((5, 0, 0), (5, 0, 0)), ((77, 0, 0), (77, 0, 0))]) rfl ?_ ?_, ?_⟩
    · exact hold_E49
    · ((repeat' (first | exact trivial | apply And.intro)) <;> ((first | refine ⟨_, _, rfl, rfl, ?_⟩ ); rfl))
    exact pipesA g hok hg hn9 ys hy hyl rs hr
  have hL4 : L.length ≤ 4 := by simp at h4; omega
  conv => whnf
  repeat (first | (refine go_E49 ?_; conv => whnf) | (refine lk_E49 ?_; conv => whnf))
  refine loop_rule (α := Nat) (fun k => [(1, u8D false ys), (5, .ptr (5, 0, 0) 0), (6, .slc true 1 (77, 0, 0) 0 rs.length), (13, .slc true 1 (95, 0, 0) 0 (toI L).length), (31, .ptr (31, 0, 0) 0), (32, .v (.int .i64 k))]) (fun k => [((5, 0, 0), gutD true g), ((77, 0, 0), .v (.agg ⟨intsC rs⟩)), ((95, 0, 0), .v (.agg ⟨intsC (toI L)⟩)), ((31, 0, 0), .agg (gutE g.n g.dp g.lv g.h (.slc true 2 (337, 0, 0) 0 k))), ((337, 0, 0), .v (.agg ⟨pipesC (onP g (L.take k)).ps⟩))]) (fun k => k ≤ L.length) (fun k => L.length - k) (0) ?_ (sim_of (rn := [((5, 0, 0), (5, 0, 0)), ((77, 0, 0), (77, 0, 0)), ((95, 0, 0), (95, 0, 0)), ((31, 0, 0), (31, 1, 0)), ((337, 0, 0), (320, 1, 0))]) rfl ?_ ?_) ?_
  · exact okt_E49
  · exact hold_E49
  · ((repeat' (first | exact trivial | apply And.intro)) <;> ((first | refine ⟨_, _, rfl, rfl, ?_⟩ ); first | rfl | (exact cset pipesC_nil.symm)))
  intro k hkk
  conv => whnf
  repeat (first | (refine go_E49 ?_; conv => whnf) | (refine lk_E49 ?_; conv => whnf))
  cases h5 : decide ((k : Int) < ((toI L).length : Int))
  · have hkL : k = L.length := by simp at h5; omega
    subst hkL
    rw [List.take_length]
    have eLn : (onP g L).ps.length = L.length := by simp [onP]
    have sQ := undrained_sat (onP g L) (onP_in hg (by omega) hLm (by omega)) (onP_ok hok hLs hLm hL4)
    rw [hLd, gut_row, eLn] at sQ
    conv => whnf
    repeat (first | (refine go_E49 ?_; conv => whnf) | (refine lk_E49 ?_; conv => whnf))
    first | refine ⟨_, _, rfl, sc_E49 (sQ), ?_⟩ | refine .inl ⟨_, _, rfl, sc_E49 (sQ), ?_⟩
    conv => whnf
    repeat (first | (refine go_E49 ?_; conv => whnf) | (refine lk_E49 ?_; conv => whnf))
    refine loop_rule (α := Nat) (fun i => [(1, u8D false ys), (5, .ptr (5, 0, 0) 0), (6, .slc true 1 (77, 0, 0) 0 rs.length), (13, .slc true 1 (95, 0, 0) 0 (toI L).length), (31, .ptr (31, 0, 0) 0), (35, .v (.int .i64 i))]) (fun i => [((5, 0, 0), gutD true g), ((77, 0, 0), .v (.agg ⟨intsC rs⟩)), ((95, 0, 0), .v (.agg ⟨intsC (toI L)⟩)), ((31, 0, 0), .agg (gutE g.n g.dp g.lv g.h (.slc true 2 (337, 0, 0) 0 L.length))), ((337, 0, 0), .v (.agg ⟨pipesC (onP g L).ps⟩))]) (fun i => i ≤ L.length) (fun i => L.length - i) (0) ?_ (sim_of (rn := [((5, 0, 0), (5, 0, 0)), ((77, 0, 0), (77, 0, 0)), ((95, 0, 0), (95, 0, 0)), ((31, 0, 0), (31, 0, 0)), ((337, 0, 0), (337, 0, 0))]) rfl ?_ ?_) ?_
    · exact okt_E49
    · exact hold_E49
    · ((repeat' (first | exact trivial | apply And.intro)) <;> ((first | refine ⟨_, _, rfl, rfl, ?_⟩ ); rfl))
    intro i hi
    conv => whnf
    repeat (first | (refine go_E49 ?_; conv => whnf) | (refine lk_E49 ?_; conv => whnf))
    cases h6 : decide ((i : Int) < ((toI L).length : Int))
    · conv => whnf
      repeat (first | (refine go_E49 ?_; conv => whnf) | (refine lk_E49 ?_; conv => whnf))
      refine ⟨stOf [(1, u8D false ys), (5, .ptr (5, 0, 0) 0), (6, .slc true 1 (77, 0, 0) 0 rs.length)] [((5, 0, 0), gutD true g), ((77, 0, 0), .v (.agg ⟨intsC rs⟩))], sim_of (rn := [((5, 0, 0), (5, 0, 0)), ((77, 0, 0), (77, 0, 0))]) rfl ?_ ?_, ?_⟩
      · exact hold_E49
      · ((repeat' (first | exact trivial | apply And.intro)) <;> ((first | refine ⟨_, _, rfl, rfl, ?_⟩ ); rfl))
      exact pipesA g hok hg hn9 ys hy hyl rs hr
    have hiL : i < L.length := by simpa using h6
    have ei1 : IntKind.i64.wrap ((i : Int) + 1) = ((i + 1 : Nat) : Int) := by rw [w64 (by omega) (by omega)]; push_cast; rfl
    conv => whnf
    repeat (first | (refine go_E49 ?_; conv => whnf) | (refine lk_E49 ?_; conv => whnf))
    rw [ei1]
    conv => whnf
    repeat (first | (refine go_E49 ?_; conv => whnf) | (refine lk_E49 ?_; conv => whnf))
    have hsub : (L.take i ++ L.drop (i + 1)).Sublist L := by rw [← List.eraseIdx_eq_take_drop_succ]; exact List.eraseIdx_sublist ..
    have hwn := without_not hLs hiL
    have hmi : L.getD i 0 ∈ L := by rw [List.getD_eq_getElem?_getD, List.getElem?_eq_getElem hiL]; exact List.getElem_mem hiL
    have eP := onP_less g (L := L) hiL
    obtain ⟨Lw, hLe⟩ : ∃ Lw, Lw = L.take i ++ L.drop (i + 1) := ⟨_, rfl⟩
    rw [← hLe] at hsub hwn eP
    have hwet := hLw hmi hwn
    have hlen : (onP g Lw).ps.length = (0 + i) + (L.length - (i + 1)) := by
      have : (onP g Lw).ps.length = Lw.length := by simp [onP]
      rw [this, hLe]; simp; omega
    have hLwl : Lw.length ≤ L.length := hsub.length_le
    have sQ2 := undrained_sat (onP g Lw) (onP_in hg (by omega) (fun c hc => hLm c (hsub.subset hc)) (by omega)) (onP_ok hok (hLs.sublist hsub) (fun c hc => hLm c (hsub.subset hc)) (by omega))
    have sQ3 : Sat Try.prog 11 [.agg (gutE g.n g.dp g.lv g.h (.row false 2 (.v (.agg ⟨List.take (((0 + i) + (L.length - (i + 1))) * 2) (List.drop 0 (([] ++ List.take (i * 2) (List.drop (0 + 0 * 2) (pipesC (onP g L).ps))) ++ List.take ((L.length - (i + 1)) * 2) (List.drop (0 + (i + 1) * 2) (pipesC (onP g L).ps))))⟩)) ((0 + i) + (L.length - (i + 1)))))] (.tup [intsD true (toI (unL (onP g Lw))), .v (.int .i64 0)]) := by rw [eP, ← hlen]; exact sQ2
    generalize unL (onP g Lw) = V at *
    first | refine ⟨_, _, rfl, sc_E49 (sQ3), ?_⟩ | refine .inl ⟨_, _, rfl, sc_E49 (sQ3), ?_⟩
    conv => whnf
    repeat (first | (refine go_E49 ?_; conv => whnf) | (refine lk_E49 ?_; conv => whnf))
    rw [show (((toI V).length : Int) == 0) = false by simp; intro e; rw [e] at hwet; simp at hwet]
    conv => whnf
    repeat (first | (refine go_E49 ?_; conv => whnf) | (refine lk_E49 ?_; conv => whnf))
    refine ⟨i + 1, ?_, ?_, sim_of (rn := [((5, 0, 0), (5, 0, 0)), ((77, 0, 0), (77, 0, 0)), ((95, 0, 0), (95, 0, 0)), ((31, 0, 0), (31, 0, 0)), ((337, 0, 0), (337, 0, 0))]) rfl ?_ ?_⟩
    · (dsimp only; omega)
    · exact okt_E49
    · exact hold_E49
    · ((repeat' (first | exact trivial | apply And.intro)) <;> ((first | refine ⟨_, _, rfl, rfl, ?_⟩ ); rfl))
  have hkL : k < L.length := by simpa using h5
  have hkT : k < (toI L).length := by rw [toI_len]; exact hkL
  have hcm : (nx L k : Int) < g.n := hLm _ (by unfold nx; rw [List.getD_eq_getElem?_getD, List.getElem?_eq_getElem hkL]; exact List.getElem_mem hkL)
  have eT : L.take (k + 1) = L.take k ++ [nx L k] := by rw [List.take_add_one]; unfold nx; simp [hkL]
  have e2 : pipesC (onP g (L.take k)).ps ++ [.int .i8 (nx L k : Nat), .int .i16 1] = pipesC (onP g (L.take (k + 1))).ps := by
    rw [eT]; unfold onP; dsimp only; rw [List.map_append, pipesC_append, List.map_cons, List.map_nil, pipesC_cons, pipesC_nil]
  conv => whnf
  repeat (first | (refine go_E49 ?_; conv => whnf) | (refine lk_E49 ?_; conv => whnf))
  rw [toI_ix hkL, w8 (n := ((nx L k : Nat) : Int)) (by omega) (by omega)]
  refine ⟨k + 1, ?_, ?_, sim_of (rn := [((5, 0, 0), (5, 0, 0)), ((77, 0, 0), (77, 0, 0)), ((95, 0, 0), (95, 0, 0)), ((31, 0, 0), (31, 0, 0)), ((337, 0, 0), (337, 1, 0))]) rfl ?_ ?_⟩
  · (dsimp only; omega)
  · exact okt_E49
  · exact hold_E49
  · ((repeat' (first | exact trivial | apply And.intro)) <;> ((first | refine ⟨_, _, rfl, rfl, ?_⟩ ); first | rfl | (exact cset e2)))
end Go.Proofs.Ytcnenmcagkbppaa
/- The law on pipes: the walk. -/
set_option linter.unusedVariables false
set_option linter.unusedSimpArgs false
set_option maxRecDepth 4000
namespace Go.V
/- Words for the walks of this text: their default arguments are tried where they are used. -/
theorem go_E50 {P Q : Prop} (k : Q) (h : P := by first | exact Nat.le_of_ble_eq_true rfl | exact trivial | exact rfl | decide | omega | (simp [splice]; done) | (constructor <;> omega) | (simp [splice]; omega)) : P ∧ Q := ⟨h, k⟩
theorem lk_E50 {α : Type} {o : Option α} {K : α → Prop} {x : α} (k : K x) (h : o = some x := by first | exact u8A (by omega) | exact u8A' (by omega) | exact hDA (by omega) | exact hDA' (by omega) | exact gutA (by omega) | exact pipeA (by omega) | exact pipeB (by omega) | exact pipeSA (by omega) | exact pipeSB (by omega) | exact intA (by omega) | exact intA' (by omega)) : optK o K := optK_of h k
theorem sc_E50 {P : Program} {g : FuncId} {args args' : List D} {res : D} (h : Sat P g args res) (e : args' = args := by repeat (first | rfl | exact vfull (by first | (simp [splice]; done) | (simp [splice]; omega)) | exact rfull (by first | (simp [splice]; done) | (simp [splice]; omega)) | exact vzero17 | exact vpipe (by simp; done) (by omega) | exact vsplice (by simp) (by simp) | refine ceq ?_ ?_ | refine Eq.trans (vsplice (by first | (simp; done) | (simp; omega)) (by first | (simp; done) | (simp; omega))) ?_)) : Sat P g args' res := Sat.of_eq h e
theorem leaf_E50 {P : Prop} (h : P := by first | rfl | exact succ8 (by omega) | exact succ64 (by omega) | exact CapOk.fn (by assumption) _ _ | exact vintS (by omega) | exact vintS (by rw [w64 (by omega) (by omega)]; omega) | exact vintS (by rw [w8 (by omega) (by omega)]; omega) | exact vslcS (by omega) | exact vslcS (by simp)) : P := h
theorem hold_E50 {P : Prop} (h : P := by (repeat' (first | exact trivial | apply And.intro)) <;> (first | rfl | exact succ8 (by omega) | exact succ64 (by omega) | exact CapOk.fn (by assumption) _ _ | exact vintS (by omega) | exact vintS (by rw [w64 (by omega) (by omega)]; omega) | exact vintS (by rw [w8 (by omega) (by omega)]; omega) | exact vslcS (by omega) | exact vslcS (by simp))) : P := h
theorem okt_E50 {P : Prop} (h : P := by first | omega | (dsimp only; omega) | ((repeat' apply And.intro) <;> omega) | (dsimp only; (repeat' apply And.intro) <;> omega) | trivial) : P := h
end Go.V
namespace Go.Proofs.Ytcnenmcagkbppaa
open Go.V
set_option maxHeartbeats 4000000 in
theorem fnPipes_sat (xs : List Int) (hx : Bytes xs) (ys : List Int) (hy : Bytes ys) : Sat Try.prog 3 [u8D false xs, u8D false ys] (.v (.bool true)) := by
  refine satC_of_wp [13, 2, 4] hMix tOk Try.func3 rfl rfl Try.ntmps3 rfl rfl Try.results3 (by kernel_rfl) ?_
  conv => whnf
  repeat (first | (refine go_E50 ?_; conv => whnf) | (refine lk_E50 ?_; conv => whnf))
  first | refine ⟨_, _, rfl, sc_E50 (f6big_sat xs false), ?_⟩ | refine .inl ⟨_, _, rfl, sc_E50 (f6big_sat xs false), ?_⟩
  conv => whnf
  repeat (first | (refine go_E50 ?_; conv => whnf) | (refine lk_E50 ?_; conv => whnf))
  cases hb1 : decide ((xs.length : Int) > 4096)
  case true =>
    conv => whnf
    repeat (first | (refine go_E50 ?_; conv => whnf) | (refine lk_E50 ?_; conv => whnf))
    first | refine ⟨rfl, _, rfl, ?_⟩ | refine ⟨_, rfl, ?_⟩
    rfl
  have hxl : xs.length ≤ 4096 := by simp at hb1; omega
  conv => whnf
  repeat (first | (refine go_E50 ?_; conv => whnf) | (refine lk_E50 ?_; conv => whnf))
  first | refine ⟨_, _, rfl, sc_E50 (f6big_sat ys false), ?_⟩ | refine .inl ⟨_, _, rfl, sc_E50 (f6big_sat ys false), ?_⟩
  conv => whnf
  repeat (first | (refine go_E50 ?_; conv => whnf) | (refine lk_E50 ?_; conv => whnf))
  cases hb2 : decide ((ys.length : Int) > 4096)
  case true =>
    conv => whnf
    repeat (first | (refine go_E50 ?_; conv => whnf) | (refine lk_E50 ?_; conv => whnf))
    first | refine ⟨rfl, _, rfl, ?_⟩ | refine ⟨_, rfl, ?_⟩
    rfl
  have hyl : ys.length ≤ 4096 := by simp at hb2; omega
  obtain ⟨hok, hg, hn9⟩ := gwG_ok hx
  have sG := p6Gutter_sat xs hx hxl false
  generalize gwG xs = g at *
  have ho := okG_ok hok
  have hn := ho.n
  have hpl := ho.len
  have sR := p6Falls_sat ys hy hyl g ho false
  have hr : rainB g (flR ys g.n.toNat) = true := flR_ok hy (by omega)
  generalize flR ys g.n.toNat = rs at *
  have hrx := rainB_ok hr
  have hrl := hrx.len
  have sF1 := implFlowsTo_sat g hg hok
  have sF2 := specFlowsTo_sat g hg hok
  have hflI : ∀ k : Nat, (k : Int) < g.n → ix (flL g g.n.toNat) k = toP g k := fun k hk => flL_ix (by omega)
  have hflL := flL_len g g.n.toNat
  generalize flL g g.n.toNat = fl at *
  have sP1 := implFewest_sat g hg hok
  have sP2 := specFewest_sat g hg hok
  have hL0 := fw_pos ho.hi
  have hLm : ∀ c ∈ fwL g, (c : Int) < g.n := fun c hc => (fw_mem.1 hc).1
  have hLs := fw_sorted g
  have hLd := full_dry ho.hi
  have hLw := fun {L : List Nat} {c : Nat} => less_wet (L := L) (c := c) ho.hi
  have hLl : (fwL g).length ≤ 17 := by
    have := List.length_filter_le (fun c => decide (toP (noP g) c < 0)) (List.range g.n.toNat)
    unfold fwL; simp at this; omega
  generalize fwL g = L at *
  have sU1 := undrained_sat g hg hok
  have sU2 := specUndrained_sat g hg hok
  have hUh := fun (k : Nat) (h : (k : Int) < g.n) => un_has (g := g) (k := k) h
  have hUl : (unL g).length ≤ 17 := by
    have := List.length_filter_le (fun c => !hasB g (endP g c)) (List.range g.n.toNat)
    unfold unL; simp at this; omega
  generalize unL g = U at *
  conv => whnf
  repeat (first | (refine go_E50 ?_; conv => whnf) | (refine lk_E50 ?_; conv => whnf))
  first | refine ⟨_, _, rfl, sc_E50 (sG), ?_⟩ | refine .inl ⟨_, _, rfl, sc_E50 (sG), ?_⟩
  conv => whnf
  repeat (first | (refine go_E50 ?_; conv => whnf) | (refine lk_E50 ?_; conv => whnf))
  first | refine ⟨_, _, rfl, sc_E50 (sR), ?_⟩ | refine .inl ⟨_, _, rfl, sc_E50 (sR), ?_⟩
  conv => whnf
  repeat (first | (refine go_E50 ?_; conv => whnf) | (refine lk_E50 ?_; conv => whnf))
  first | refine ⟨_, _, rfl, sc_E50 (sF1), ?_⟩ | refine .inl ⟨_, _, rfl, sc_E50 (sF1), ?_⟩
  conv => whnf
  repeat (first | (refine go_E50 ?_; conv => whnf) | (refine lk_E50 ?_; conv => whnf))
  first | refine ⟨_, _, rfl, sc_E50 (sF2), ?_⟩ | refine .inl ⟨_, _, rfl, sc_E50 (sF2), ?_⟩
  conv => whnf
  repeat (first | (refine go_E50 ?_; conv => whnf) | (refine lk_E50 ?_; conv => whnf))
  first | refine ⟨_, _, rfl, sc_E50 (sP1), ?_⟩ | refine .inl ⟨_, _, rfl, sc_E50 (sP1), ?_⟩
  conv => whnf
  repeat (first | (refine go_E50 ?_; conv => whnf) | (refine lk_E50 ?_; conv => whnf))
  first | refine ⟨_, _, rfl, sc_E50 (sP2), ?_⟩ | refine .inl ⟨_, _, rfl, sc_E50 (sP2), ?_⟩
  conv => whnf
  repeat (first | (refine go_E50 ?_; conv => whnf) | (refine lk_E50 ?_; conv => whnf))
  first | refine ⟨_, _, rfl, sc_E50 (sU1), ?_⟩ | refine .inl ⟨_, _, rfl, sc_E50 (sU1), ?_⟩
  conv => whnf
  repeat (first | (refine go_E50 ?_; conv => whnf) | (refine lk_E50 ?_; conv => whnf))
  first | refine ⟨_, _, rfl, sc_E50 (sU2), ?_⟩ | refine .inl ⟨_, _, rfl, sc_E50 (sU2), ?_⟩
  conv => whnf
  repeat (first | (refine go_E50 ?_; conv => whnf) | (refine lk_E50 ?_; conv => whnf))
  first | refine ⟨_, _, rfl, sc_E50 (sameNumbers_sat fl (by omega) false false), ?_⟩ | refine .inl ⟨_, _, rfl, sc_E50 (sameNumbers_sat fl (by omega) false false), ?_⟩
  conv => whnf
  repeat (first | (refine go_E50 ?_; conv => whnf) | (refine lk_E50 ?_; conv => whnf))
  rw [show ((fl.length : Int) != IntKind.i64.wrap g.n) = false by rw [w64 (by omega) (by omega)]; simp; omega]
  conv => whnf
  repeat (first | (refine go_E50 ?_; conv => whnf) | (refine lk_E50 ?_; conv => whnf))
  first | refine ⟨_, _, rfl, sc_E50 (sameNumbers_sat (toI L) (by simp; omega) false false), ?_⟩ | refine .inl ⟨_, _, rfl, sc_E50 (sameNumbers_sat (toI L) (by simp; omega) false false), ?_⟩
  conv => whnf
  repeat (first | (refine go_E50 ?_; conv => whnf) | (refine lk_E50 ?_; conv => whnf))
  rw [show decide (((toI L).length : Int) < 1) = false by simp; omega]
  conv => whnf
  repeat (first | (refine go_E50 ?_; conv => whnf) | (refine lk_E50 ?_; conv => whnf))
  first | refine ⟨_, _, rfl, sc_E50 (sameNumbers_sat (toI U) (by simp; omega) false false), ?_⟩ | refine .inl ⟨_, _, rfl, sc_E50 (sameNumbers_sat (toI U) (by simp; omega) false false), ?_⟩
  conv => whnf
  repeat (first | (refine go_E50 ?_; conv => whnf) | (refine lk_E50 ?_; conv => whnf))
  have en : IntKind.i64.wrap g.n = g.n := w64 (by omega) (by omega)
  obtain ⟨sm, hsm0, hsms, hsmn, hsmb⟩ : ∃ sm : Nat → Nat, sm 0 = 0 ∧ (∀ k, sm (k + 1) = sm k + (bsL g k).length) ∧ sm g.n.toNat = g.n.toNat ∧ ∀ k, sm k ≤ 17 * k := ⟨smB g, rfl, fun _ => rfl, smB_all ho.hi, smB_le (by omega)⟩
  refine loop_rule (α := Nat) (fun k => [(1, u8D false ys), (5, .ptr (5, 0, 0) 0), (6, .slc true 1 (77, 0, 0) 0 rs.length), (9, .slc true 1 (85, 0, 0) 0 fl.length), (13, .slc true 1 (95, 0, 0) 0 (toI L).length), (17, .slc true 1 (105, 0, 0) 0 (toI U).length), (19, .v (.int .i64 (sm k : Nat))), (20, .v (.int .i64 k))]) (fun k => [((5, 0, 0), gutD true g), ((77, 0, 0), .v (.agg ⟨intsC rs⟩)), ((85, 0, 0), .v (.agg ⟨intsC fl⟩)), ((95, 0, 0), .v (.agg ⟨intsC (toI L)⟩)), ((105, 0, 0), .v (.agg ⟨intsC (toI U)⟩))]) (fun k => k ≤ g.n.toNat) (fun k => g.n.toNat - k) (0) ?_ (sim_of (rn := [((5, 0, 0), (5, 0, 0)), ((77, 0, 0), (77, 0, 0)), ((85, 0, 0), (85, 0, 0)), ((95, 0, 0), (95, 0, 0)), ((105, 0, 0), (105, 0, 0))]) rfl ?_ ?_) ?_
  · exact okt_E50
  · ((repeat' (first | exact trivial | apply And.intro)) <;> (first | rfl | (exact vintS (by rw [hsm0]; rfl)) | exact leaf_E50))
  · ((repeat' (first | exact trivial | apply And.intro)) <;> ((first | refine ⟨_, _, rfl, rfl, ?_⟩ ); rfl))
  intro k hkk
  conv => whnf
  repeat (first | (refine go_E50 ?_; conv => whnf) | (refine lk_E50 ?_; conv => whnf))
  rw [en]
  cases h : decide ((k : Int) < g.n)
  · have hkn : k = g.n.toNat := by simp at h; omega
    subst hkn
    rw [hsmn]
    refine ⟨stOf [(1, u8D false ys), (5, .ptr (5, 0, 0) 0), (6, .slc true 1 (77, 0, 0) 0 rs.length), (13, .slc true 1 (95, 0, 0) 0 (toI L).length), (19, .v (.int .i64 (g.n.toNat : Nat)))] [((5, 0, 0), gutD true g), ((77, 0, 0), .v (.agg ⟨intsC rs⟩)), ((95, 0, 0), .v (.agg ⟨intsC (toI L)⟩))], sim_of (rn := [((5, 0, 0), (5, 0, 0)), ((77, 0, 0), (77, 0, 0)), ((95, 0, 0), (95, 0, 0))]) rfl ?_ ?_, ?_⟩
    · exact hold_E50
    · ((repeat' (first | exact trivial | apply And.intro)) <;> ((first | refine ⟨_, _, rfl, rfl, ?_⟩ ); rfl))
    exact pipes31 g hok hg hn9 ys hy hyl rs hr L hLm hLs hLd hLw hLl
  have hkn : (k : Int) < g.n := by simpa using h
  have hfk := hflI k hkn
  have hlow := fun hh => toP_low (g := g) (c := k) hkn hh
  have hb5 := bs_pos (g := g) (k := k) ho.hi hkn
  have hB17 : (bsL g k).length ≤ 17 := by
    have := List.length_filter_le (fun c => decide (endP g c = k)) (List.range g.n.toNat)
    unfold bsL; simp at this; omega
  have hsk := hsms k
  have hsb := hsmb k
  have sE1 := endOf_sat g hg hok k hkn
  have sE2 := specEndOf_sat g hg hok k hkn
  have sB1 := basinOf_sat g hg hok k hkn
  have sB2 := specBasinOf_sat g hg hok k hkn
  have hei := endP_is ho.hi hkn
  have hes := fun hh => endP_stop (g := g) (c := k) hh
  have hU := hUh k hkn
  generalize endP g k = e at *
  generalize bsL g k = B at *
  have hfe := hflI e hei.2
  have hsum : IntKind.i64.wrap ((sm k : Int) + ((toI B).length : Int)) = (sm (k + 1) : Nat) := by rw [w64 (by simp; omega) (by simp; omega), hsk]; simp
  have sN : Sat Try.prog 18 [intsD false (toI U), .v (.int .i64 k)] (.v (.bool (!hasB g e))) := by
    have := hasNumber_sat (toI U) (by simp; omega) (k : Int) false
    rw [toI_len, hU] at this
    exact this
  obtain ⟨pA, hp0, hps, hpn⟩ : ∃ pA : Nat → Bool, pA 0 = false ∧ (∀ i, pA (i + 1) = (pA i || ((px g.ps i).1 == (e : Int)))) ∧ pA g.ps.length = hasB g e := ⟨fun i => (List.range i).any fun j => (px g.ps j).1 == (e : Int), rfl, fun i => by dsimp only; rw [List.range_succ, List.any_append]; simp, rfl⟩
  have hT := toP_range (g := g) (c := k) hkn
  conv => whnf
  repeat (first | (refine go_E50 ?_; conv => whnf) | (refine lk_E50 ?_; conv => whnf))
  first | refine ⟨_, _, rfl, sc_E50 (sE1), ?_⟩ | refine .inl ⟨_, _, rfl, sc_E50 (sE1), ?_⟩
  conv => whnf
  repeat (first | (refine go_E50 ?_; conv => whnf) | (refine lk_E50 ?_; conv => whnf))
  first | refine ⟨_, _, rfl, sc_E50 (sE2), ?_⟩ | refine .inl ⟨_, _, rfl, sc_E50 (sE2), ?_⟩
  conv => whnf
  repeat (first | (refine go_E50 ?_; conv => whnf) | (refine lk_E50 ?_; conv => whnf))
  first | refine ⟨_, _, rfl, sc_E50 (sB1), ?_⟩ | refine .inl ⟨_, _, rfl, sc_E50 (sB1), ?_⟩
  conv => whnf
  repeat (first | (refine go_E50 ?_; conv => whnf) | (refine lk_E50 ?_; conv => whnf))
  first | refine ⟨_, _, rfl, sc_E50 (sB2), ?_⟩ | refine .inl ⟨_, _, rfl, sc_E50 (sB2), ?_⟩
  conv => whnf
  repeat (first | (refine go_E50 ?_; conv => whnf) | (refine lk_E50 ?_; conv => whnf))
  rw [show ((e : Int) != (e : Int)) = false by simp]
  conv => whnf
  repeat (first | (refine go_E50 ?_; conv => whnf) | (refine lk_E50 ?_; conv => whnf))
  rw [show decide ((e : Int) < 0) = false by simp]
  conv => whnf
  repeat (first | (refine go_E50 ?_; conv => whnf) | (refine lk_E50 ?_; conv => whnf))
  rw [show decide ((e : Int) ≥ (fl.length : Int)) = false by simp; omega]
  conv => whnf
  repeat (first | (refine go_E50 ?_; conv => whnf) | (refine lk_E50 ?_; conv => whnf))
  rw [hfe, show decide (toP g e ≥ 0) = false by simp; omega]
  conv => whnf
  repeat (first | (refine go_E50 ?_; conv => whnf) | (refine lk_E50 ?_; conv => whnf))
  rw [hfk]
  cases hneg : decide (toP g k < 0)
  · have hneg' : 0 ≤ toP g k := by simpa using hneg
    have hl2 := hlow hneg'
    have hBz : B.length = 0 := by
      have : ¬ 0 < B.length := fun hh => by have := hb5.1 hh; omega
      omega
    conv => whnf
    repeat (first | (refine go_E50 ?_; conv => whnf) | (refine lk_E50 ?_; conv => whnf))
    first | refine ⟨_, _, rfl, sc_E50 (sameNumbers_sat (toI B) (by simp; omega) false false), ?_⟩ | refine .inl ⟨_, _, rfl, sc_E50 (sameNumbers_sat (toI B) (by simp; omega) false false), ?_⟩
    conv => whnf
    repeat (first | (refine go_E50 ?_; conv => whnf) | (refine lk_E50 ?_; conv => whnf))
    rw [hfk, hneg, show decide (((toI B).length : Int) > 0) = false by rw [toI_len, hBz]; rfl]
    conv => whnf
    repeat (first | (refine go_E50 ?_; conv => whnf) | (refine lk_E50 ?_; conv => whnf))
    obtain ⟨d, hd⟩ := eq_toNat hneg'
    have hfd : ix fl k = (d : Int) := by rw [hfk, hd]
    have hdn : d < 17 ∧ g.h d < g.h k := by rw [hd] at hl2; simp at hl2; omega
    rw [hfd, show decide ((d : Int) ≥ 0) = true by simp]
    conv => whnf
    repeat (first | (refine go_E50 ?_; conv => whnf) | (refine lk_E50 ?_; conv => whnf))
    try rw [hfd]
    conv => whnf
    repeat (first | (refine go_E50 ?_; conv => whnf) | (refine lk_E50 ?_; conv => whnf))
    rw [show decide (g.h d ≥ g.h k) = false by simp; omega]
    conv => whnf
    repeat (first | (refine go_E50 ?_; conv => whnf) | (refine lk_E50 ?_; conv => whnf))
    refine loop_rule (α := Nat) (fun i => [(1, u8D false ys), (5, .ptr (5, 0, 0) 0), (6, .slc true 1 (77, 0, 0) 0 rs.length), (9, .slc true 1 (85, 0, 0) 0 fl.length), (13, .slc true 1 (95, 0, 0) 0 (toI L).length), (17, .slc true 1 (105, 0, 0) 0 (toI U).length), (19, .v (.int .i64 (sm k : Nat))), (20, .v (.int .i64 k)), (23, .v (.int .i64 (e : Nat))), (27, .slc true 1 (192, 0, 0) 0 (toI B).length), (29, .v (.bool (pA i))), (30, .v (.int .i64 i))]) (fun i => [((5, 0, 0), gutD true g), ((77, 0, 0), .v (.agg ⟨intsC rs⟩)), ((85, 0, 0), .v (.agg ⟨intsC fl⟩)), ((95, 0, 0), .v (.agg ⟨intsC (toI L)⟩)), ((105, 0, 0), .v (.agg ⟨intsC (toI U)⟩)), ((192, 0, 0), .v (.agg ⟨intsC (toI B)⟩))]) (fun i => i ≤ g.ps.length) (fun i => g.ps.length - i) (0) ?_ (sim_of (rn := [((5, 0, 0), (5, 0, 0)), ((77, 0, 0), (77, 0, 0)), ((85, 0, 0), (85, 0, 0)), ((95, 0, 0), (95, 0, 0)), ((105, 0, 0), (105, 0, 0)), ((192, 0, 0), (192, 1, 0))]) rfl ?_ ?_) ?_
    · exact okt_E50
    · ((repeat' (first | exact trivial | apply And.intro)) <;> (first | rfl | (first | exact vboolS hp0 | exact vboolS hp0.symm) | exact leaf_E50))
    · ((repeat' (first | exact trivial | apply And.intro)) <;> ((first | refine ⟨_, _, rfl, rfl, ?_⟩ ); rfl))
    intro i hi
    conv => whnf
    repeat (first | (refine go_E50 ?_; conv => whnf) | (refine lk_E50 ?_; conv => whnf))
    cases h7 : decide ((i : Int) < (g.ps.length : Int))
    · have hin : i = g.ps.length := by simp at h7; omega
      subst hin
      rw [hpn]
      conv => whnf
      repeat (first | (refine go_E50 ?_; conv => whnf) | (refine lk_E50 ?_; conv => whnf))
      first | refine ⟨_, _, rfl, sc_E50 (sN), ?_⟩ | refine .inl ⟨_, _, rfl, sc_E50 (sN), ?_⟩
      conv => whnf
      repeat (first | (refine go_E50 ?_; conv => whnf) | (refine lk_E50 ?_; conv => whnf))
      rw [show (hasB g e == !hasB g e) = false by cases hasB g e <;> rfl]
      conv => whnf
      repeat (first | (refine go_E50 ?_; conv => whnf) | (refine lk_E50 ?_; conv => whnf))
      refine ⟨k + 1, ?_, ?_, sim_of (rn := [((5, 0, 0), (5, 0, 0)), ((77, 0, 0), (77, 0, 0)), ((85, 0, 0), (85, 0, 0)), ((95, 0, 0), (95, 0, 0)), ((105, 0, 0), (105, 0, 0))]) rfl ?_ ?_⟩
      · (dsimp only; omega)
      · exact okt_E50
      · ((repeat' (first | exact trivial | apply And.intro)) <;> (first | rfl | (first | exact vintS hsum | exact vintS (w64 (by omega) (by omega))) | exact leaf_E50))
      · ((repeat' (first | exact trivial | apply And.intro)) <;> ((first | refine ⟨_, _, rfl, rfl, ?_⟩ ); rfl))
    have hin : i < g.ps.length := by simpa using h7
    have hpi := hg.ps i hin
    have hps2 := hps i
    conv => whnf
    repeat (first | (refine go_E50 ?_; conv => whnf) | (refine lk_E50 ?_; conv => whnf))
    cases h8 : pA i
    · rw [h8, Bool.false_or] at hps2
      conv => whnf
      repeat (first | (refine go_E50 ?_; conv => whnf) | (refine lk_E50 ?_; conv => whnf))
      rw [show IntKind.i64.wrap (px g.ps i).1 = (px g.ps i).1 from w64 (by omega) (by omega)]
      refine ⟨i + 1, ?_, ?_, sim_of (rn := [((5, 0, 0), (5, 0, 0)), ((77, 0, 0), (77, 0, 0)), ((85, 0, 0), (85, 0, 0)), ((95, 0, 0), (95, 0, 0)), ((105, 0, 0), (105, 0, 0)), ((192, 0, 0), (192, 0, 0))]) rfl ?_ ?_⟩
      · (dsimp only; omega)
      · exact okt_E50
      · ((repeat' (first | exact trivial | apply And.intro)) <;> (first | rfl | (first | exact vboolS hps2 | exact vboolS hps2.symm) | exact leaf_E50))
      · ((repeat' (first | exact trivial | apply And.intro)) <;> ((first | refine ⟨_, _, rfl, rfl, ?_⟩ ); rfl))
    · rw [h8, Bool.true_or] at hps2
      conv => whnf
      repeat (first | (refine go_E50 ?_; conv => whnf) | (refine lk_E50 ?_; conv => whnf))
      refine ⟨i + 1, ?_, ?_, sim_of (rn := [((5, 0, 0), (5, 0, 0)), ((77, 0, 0), (77, 0, 0)), ((85, 0, 0), (85, 0, 0)), ((95, 0, 0), (95, 0, 0)), ((105, 0, 0), (105, 0, 0)), ((192, 0, 0), (192, 0, 0))]) rfl ?_ ?_⟩
      · (dsimp only; omega)
      · exact okt_E50
      · ((repeat' (first | exact trivial | apply And.intro)) <;> (first | rfl | (first | exact vboolS hps2 | exact vboolS hps2.symm) | exact leaf_E50))
      · ((repeat' (first | exact trivial | apply And.intro)) <;> ((first | refine ⟨_, _, rfl, rfl, ?_⟩ ); rfl))
  · have hneg' : toP g k < 0 := by simpa using hneg
    have hek := (hes hneg').symm
    have hBp := hb5.2 hneg'
    subst hek
    conv => whnf
    repeat (first | (refine go_E50 ?_; conv => whnf) | (refine lk_E50 ?_; conv => whnf))
    rw [show ((k : Int) != (k : Int)) = false by simp]
    conv => whnf
    repeat (first | (refine go_E50 ?_; conv => whnf) | (refine lk_E50 ?_; conv => whnf))
    first | refine ⟨_, _, rfl, sc_E50 (sameNumbers_sat (toI B) (by simp; omega) false false), ?_⟩ | refine .inl ⟨_, _, rfl, sc_E50 (sameNumbers_sat (toI B) (by simp; omega) false false), ?_⟩
    conv => whnf
    repeat (first | (refine go_E50 ?_; conv => whnf) | (refine lk_E50 ?_; conv => whnf))
    rw [hfk, hneg, show decide (((toI B).length : Int) > 0) = true by rw [toI_len]; exact decide_eq_true (by omega)]
    conv => whnf
    repeat (first | (refine go_E50 ?_; conv => whnf) | (refine lk_E50 ?_; conv => whnf))
    rw [hfk, show decide (toP g k ≥ 0) = false by simp; omega]
    conv => whnf
    repeat (first | (refine go_E50 ?_; conv => whnf) | (refine lk_E50 ?_; conv => whnf))
    refine loop_rule (α := Nat) (fun i => [(1, u8D false ys), (5, .ptr (5, 0, 0) 0), (6, .slc true 1 (77, 0, 0) 0 rs.length), (9, .slc true 1 (85, 0, 0) 0 fl.length), (13, .slc true 1 (95, 0, 0) 0 (toI L).length), (17, .slc true 1 (105, 0, 0) 0 (toI U).length), (19, .v (.int .i64 (sm k : Nat))), (20, .v (.int .i64 k)), (23, .v (.int .i64 (k : Nat))), (27, .slc true 1 (192, 0, 0) 0 (toI B).length), (29, .v (.bool (pA i))), (30, .v (.int .i64 i))]) (fun i => [((5, 0, 0), gutD true g), ((77, 0, 0), .v (.agg ⟨intsC rs⟩)), ((85, 0, 0), .v (.agg ⟨intsC fl⟩)), ((95, 0, 0), .v (.agg ⟨intsC (toI L)⟩)), ((105, 0, 0), .v (.agg ⟨intsC (toI U)⟩)), ((192, 0, 0), .v (.agg ⟨intsC (toI B)⟩))]) (fun i => i ≤ g.ps.length) (fun i => g.ps.length - i) (0) ?_ (sim_of (rn := [((5, 0, 0), (5, 0, 0)), ((77, 0, 0), (77, 0, 0)), ((85, 0, 0), (85, 0, 0)), ((95, 0, 0), (95, 0, 0)), ((105, 0, 0), (105, 0, 0)), ((192, 0, 0), (192, 1, 0))]) rfl ?_ ?_) ?_
    · exact okt_E50
    · ((repeat' (first | exact trivial | apply And.intro)) <;> (first | rfl | (first | exact vboolS hp0 | exact vboolS hp0.symm) | exact leaf_E50))
    · ((repeat' (first | exact trivial | apply And.intro)) <;> ((first | refine ⟨_, _, rfl, rfl, ?_⟩ ); rfl))
    intro i hi
    conv => whnf
    repeat (first | (refine go_E50 ?_; conv => whnf) | (refine lk_E50 ?_; conv => whnf))
    cases h7 : decide ((i : Int) < (g.ps.length : Int))
    · have hin : i = g.ps.length := by simp at h7; omega
      subst hin
      rw [hpn]
      conv => whnf
      repeat (first | (refine go_E50 ?_; conv => whnf) | (refine lk_E50 ?_; conv => whnf))
      first | refine ⟨_, _, rfl, sc_E50 (sN), ?_⟩ | refine .inl ⟨_, _, rfl, sc_E50 (sN), ?_⟩
      conv => whnf
      repeat (first | (refine go_E50 ?_; conv => whnf) | (refine lk_E50 ?_; conv => whnf))
      rw [show (hasB g k == !hasB g k) = false by cases hasB g k <;> rfl]
      conv => whnf
      repeat (first | (refine go_E50 ?_; conv => whnf) | (refine lk_E50 ?_; conv => whnf))
      refine ⟨k + 1, ?_, ?_, sim_of (rn := [((5, 0, 0), (5, 0, 0)), ((77, 0, 0), (77, 0, 0)), ((85, 0, 0), (85, 0, 0)), ((95, 0, 0), (95, 0, 0)), ((105, 0, 0), (105, 0, 0))]) rfl ?_ ?_⟩
      · (dsimp only; omega)
      · exact okt_E50
      · ((repeat' (first | exact trivial | apply And.intro)) <;> (first | rfl | (first | exact vintS hsum | exact vintS (w64 (by omega) (by omega))) | exact leaf_E50))
      · ((repeat' (first | exact trivial | apply And.intro)) <;> ((first | refine ⟨_, _, rfl, rfl, ?_⟩ ); rfl))
    have hin : i < g.ps.length := by simpa using h7
    have hpi := hg.ps i hin
    have hps2 := hps i
    conv => whnf
    repeat (first | (refine go_E50 ?_; conv => whnf) | (refine lk_E50 ?_; conv => whnf))
    cases h8 : pA i
    · rw [h8, Bool.false_or] at hps2
      conv => whnf
      repeat (first | (refine go_E50 ?_; conv => whnf) | (refine lk_E50 ?_; conv => whnf))
      rw [show IntKind.i64.wrap (px g.ps i).1 = (px g.ps i).1 from w64 (by omega) (by omega)]
      refine ⟨i + 1, ?_, ?_, sim_of (rn := [((5, 0, 0), (5, 0, 0)), ((77, 0, 0), (77, 0, 0)), ((85, 0, 0), (85, 0, 0)), ((95, 0, 0), (95, 0, 0)), ((105, 0, 0), (105, 0, 0)), ((192, 0, 0), (192, 0, 0))]) rfl ?_ ?_⟩
      · (dsimp only; omega)
      · exact okt_E50
      · ((repeat' (first | exact trivial | apply And.intro)) <;> (first | rfl | (first | exact vboolS hps2 | exact vboolS hps2.symm) | exact leaf_E50))
      · ((repeat' (first | exact trivial | apply And.intro)) <;> ((first | refine ⟨_, _, rfl, rfl, ?_⟩ ); rfl))
    · rw [h8, Bool.true_or] at hps2
      conv => whnf
      repeat (first | (refine go_E50 ?_; conv => whnf) | (refine lk_E50 ?_; conv => whnf))
      refine ⟨i + 1, ?_, ?_, sim_of (rn := [((5, 0, 0), (5, 0, 0)), ((77, 0, 0), (77, 0, 0)), ((85, 0, 0), (85, 0, 0)), ((95, 0, 0), (95, 0, 0)), ((105, 0, 0), (105, 0, 0)), ((192, 0, 0), (192, 0, 0))]) rfl ?_ ?_⟩
      · (dsimp only; omega)
      · exact okt_E50
      · ((repeat' (first | exact trivial | apply And.intro)) <;> (first | rfl | (first | exact vboolS hps2 | exact vboolS hps2.symm) | exact leaf_E50))
      · ((repeat' (first | exact trivial | apply And.intro)) <;> ((first | refine ⟨_, _, rfl, rfl, ?_⟩ ); rfl))
end Go.Proofs.Ytcnenmcagkbppaa
