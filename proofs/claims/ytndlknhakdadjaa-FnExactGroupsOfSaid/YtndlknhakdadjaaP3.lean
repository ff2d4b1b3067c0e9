import Derived.Test.YtndlknhakdadjaaP1
import Derived.Test.YtndlknhakdadjaaP2
set_option linter.unusedVariables false
set_option linter.unusedSimpArgs false
/- Contracts: rain that runs down a roof, both sides. -/
set_option linter.unusedVariables false
set_option linter.unusedSimpArgs false
namespace Go.Proofs.Ytndlknhakdadjaa
open Go.V
theorem region11 {id : Nat} {t1 t2 t3 t4 t5 t6 t7 t8 : TypeId} {p1 p2 p3 p4 p5 p6 p7 p8 : String} {a1 a2 a3 a4 a5 a6 a7 a8 : Array Edge} {Q : Ex → St → Prop} {s : St} {f : Nat → Nat → Int} {x : D} {i k : Int}
    (h5 : s.t 5 = .ptr (5, 0, 0) 0) (h8 : s.t 8 = .v (.int .i64 i)) (h9 : s.t 9 = .v (.int .i64 k)) (hm : s.m (5, 0, 0) = some (.agg (dripL f ++ [x, .mp])))
    (hQ : Q .normal (((((((s.set 38 (.ptr (5, 0, 0) (0 + 137))).set 39 .mp).set 40 (.v (.int .i64 i))).set 41 (.v (.int .i8 (IntKind.i8.wrap i)))).set 42 (.v (.int .i64 k))).set 43 (.v (.int .i8 (IntKind.i8.wrap k)))).set 44 (.v (.agg ⟨[.int .i8 (IntKind.i8.wrap i), .int .i8 (IntKind.i8.wrap k)]⟩)))) :
    wp Try.prog tt (Code.region id #[⟨some 38, .fieldAddr 201 (.tmp 5) 2, t1, p1, a1, none⟩, ⟨some 39, .load 199 (.tmp 38), t2, p2, a2, none⟩, ⟨some 40, .move (.tmp 8), t3, p3, a3, none⟩, ⟨some 41, .convert 3 22 (.tmp 40), t4, p4, a4, none⟩,
      ⟨some 42, .move (.tmp 9), t5, p5, a5, none⟩, ⟨some 43, .convert 3 22 (.tmp 42), t6, p6, a6, none⟩, ⟨some 44, .build 109 #[(0, .tmp 41), (1, .tmp 43)], t7, p7, a7, none⟩, ⟨none, .mapUpdate 199 (.tmp 39) (.tmp 44) (.const (.bool true)), t8, p8, a8, none⟩] false) Q s := by
  have e5 : s.ev (.tmp 5) = .ptr (5, 0, 0) 0 := h5
  conv => whnf
  rw [e5]
  conv => whnf
  have em : (s.set 38 (.ptr (5, 0, 0) (0 + 137))).m (5, 0, 0) = some (.agg (dripL f ++ [x, .mp])) := hm
  first | rw [em] | rw [hm] | trace_state
  conv => whnf
  refine optK_of flowM ?_
  conv => whnf
  have e8 : ((s.set 38 (.ptr (5, 0, 0) (0 + 137))).set 39 .mp).ev (.tmp 8) = .v (.int .i64 i) := h8
  rw [e8]
  conv => whnf
  have e9 : ((((s.set 38 (.ptr (5, 0, 0) (0 + 137))).set 39 .mp).set 40 (.v (.int .i64 i))).set 41 (.v (.int .i8 (IntKind.i8.wrap i)))).ev (.tmp 9) = .v (.int .i64 k) := h9
  rw [e9]
  conv => whnf
  exact ⟨mapOkP, hQ⟩
set_option maxRecDepth 20000 in
theorem run_sat (r : Roof) (hr : r.In) (hb : (1 ≤ r.w ∧ r.w ≤ 8) ∧ (1 ≤ r.h ∧ r.h ≤ 8) ∧ r.s ≤ 1) (w : Nat → Int) (hw : ∀ c, c < 17 → 0 ≤ w c ∧ w c ≤ 1000) :
    Sat Try.prog 156 [roofD r, raiD w] (.agg (dripL (dR r w) ++ [intsD true (gtL r w (2 * r.w + 1).toNat), .junk])) := by
  have eh : IntKind.i64.wrap r.h = r.h := w64 (by omega) (by omega)
  have ez : dripC (fun _ _ => 0) = List.replicate 136 (.int .i32 0) := dripC_zero
  have e5 : dripL (ptR (dR r w) 0 0) = (List.replicate 136 (.int .i32 0)).map D.v := by unfold dripL; rw [ptR_zero, ez]
  refine sat_of_wp hMix tOk Try.func156 rfl rfl Try.ntmps156 rfl rfl Try.results156 (by kernel_rfl) ?_
  conv => whnf
  repeat (first | (refine And.intro (by first | exact Nat.le_of_ble_eq_true rfl | exact mapOkP | exact rfl | decide | omega | (simp [splice]; done) | (constructor <;> omega) | (simp [splice]; omega)) ?_; conv => whnf) | (refine optK_of (raiA (by omega)) ?_; conv => whnf) | (refine optK_of (raiA' (by omega)) ?_; conv => whnf) | (refine optK_of (dripA (by omega) (by omega)) ?_; conv => whnf) | (refine optK_of (roofN (by omega) (by omega)) ?_; conv => whnf) | (refine optK_of (gridN (by omega) (by omega)) ?_; conv => whnf) | (refine optK_of (flowG) ?_; conv => whnf) | (refine optK_of (flowM) ?_; conv => whnf) | (refine optK_of (intA (by omega)) ?_; conv => whnf) | (refine optK_of (intA' (by omega)) ?_; conv => whnf))
  first | refine ⟨_, _, rfl, Sat.of_eq (cells_sat r hr hb) (by repeat (first | rfl | exact vfull (by first | (simp [splice]; done) | (simp [splice]; omega)) | exact rfull (by first | (simp [splice]; done) | (simp [splice]; omega)) | exact vplace (by simp; done) (by omega) | exact vrow (by simp; done) (by omega) | exact vtiles (by simp) | exact vsplice (by simp) (by simp) | refine ceq ?_ ?_ | refine Eq.trans (vsplice (by first | (simp; done) | (simp; omega)) (by first | (simp; done) | (simp; omega))) ?_)), ?_⟩ | refine .inl ⟨_, _, rfl, Sat.of_eq (cells_sat r hr hb) (by repeat (first | rfl | exact vfull (by first | (simp [splice]; done) | (simp [splice]; omega)) | exact rfull (by first | (simp [splice]; done) | (simp [splice]; omega)) | exact vplace (by simp; done) (by omega) | exact vrow (by simp; done) (by omega) | exact vtiles (by simp) | exact vsplice (by simp) (by simp) | refine ceq ?_ ?_ | refine Eq.trans (vsplice (by first | (simp; done) | (simp; omega)) (by first | (simp; done) | (simp; omega))) ?_)), ?_⟩
  conv => whnf
  repeat (first | (refine And.intro (by first | exact Nat.le_of_ble_eq_true rfl | exact mapOkP | exact rfl | decide | omega | (simp [splice]; done) | (constructor <;> omega) | (simp [splice]; omega)) ?_; conv => whnf) | (refine optK_of (raiA (by omega)) ?_; conv => whnf) | (refine optK_of (raiA' (by omega)) ?_; conv => whnf) | (refine optK_of (dripA (by omega) (by omega)) ?_; conv => whnf) | (refine optK_of (roofN (by omega) (by omega)) ?_; conv => whnf) | (refine optK_of (gridN (by omega) (by omega)) ?_; conv => whnf) | (refine optK_of (flowG) ?_; conv => whnf) | (refine optK_of (flowM) ?_; conv => whnf) | (refine optK_of (intA (by omega)) ?_; conv => whnf) | (refine optK_of (intA' (by omega)) ?_; conv => whnf))
  refine loop_rule (α := Nat) (fun c => [(2, .ptr (2, 0, 0) 0), (3, .ptr (3, 0, 0) 0), (4, .ptr (4, 0, 0) 0), (5, .ptr (5, 0, 0) 0), (14, .v (.int .i64 (2 * r.w + 1))), (15, .v (.int .i64 c))]) (fun c => [((2, 0, 0), roofD r), ((3, 0, 0), raiD w), ((4, 0, 0), .v (.agg ⟨List.replicate 136 (.int .i32 0) ++ [.slice none 0 0] ++ [.map none]⟩)), ((5, 0, 0), .agg (dripL (ptR (dR r w) c 0) ++ [.slc true 1 (71, 0, 0) 0 c, .mp])), ((71, 0, 0), .v (.agg ⟨intsC (gtL r w c)⟩))]) (fun c => c ≤ (2 * r.w + 1).toNat) (fun c => (2 * r.w + 1).toNat - c) (0) ?_ (sim_of (rn := [((2, 0, 0), (2, 0, 0)), ((3, 0, 0), (3, 0, 0)), ((4, 0, 0), (4, 0, 0)), ((5, 0, 0), (5, 0, 0)), ((71, 0, 0), nilId)]) rfl ?_ ?_) ?_
  · first | omega | (dsimp only; omega) | ((repeat' apply And.intro) <;> omega) | (dsimp only; (repeat' apply And.intro) <;> omega) | trivial
  · ((repeat' (first | exact trivial | apply And.intro)) <;> (first | rfl | exact succ8 (by omega) | exact succ64 (by omega) | exact CapOk.fn (by assumption) _ _ | exact vintS (by omega) | exact vintS (by rw [w64 (by omega) (by omega)]; omega) | exact vintS (by rw [w8 (by omega) (by omega)]; omega) | exact vslcS (by omega) | exact vslcS (by simp)))
  · ((repeat' (first | exact trivial | apply And.intro)) <;> ((first | refine ⟨_, _, rfl, rfl, ?_⟩ | refine ⟨_, _, rfl, renFlow rfl rfl, ?_⟩); first | (first | exact cset intsC_nil.symm | (rw [e5]; rfl)) | rfl))
  intro c hc
  have z0 : ∀ i c, (2 * r.w + 1).toNat ≤ c → dR r w i c = 0 := fun i c h => by unfold dR; rw [if_neg (by unfold onR; omega)]
  conv => whnf
  repeat (first | (refine And.intro (by first | exact Nat.le_of_ble_eq_true rfl | exact mapOkP | exact rfl | decide | omega | (simp [splice]; done) | (constructor <;> omega) | (simp [splice]; omega)) ?_; conv => whnf) | (refine optK_of (raiA (by omega)) ?_; conv => whnf) | (refine optK_of (raiA' (by omega)) ?_; conv => whnf) | (refine optK_of (dripA (by omega) (by omega)) ?_; conv => whnf) | (refine optK_of (roofN (by omega) (by omega)) ?_; conv => whnf) | (refine optK_of (gridN (by omega) (by omega)) ?_; conv => whnf) | (refine optK_of (flowG) ?_; conv => whnf) | (refine optK_of (flowM) ?_; conv => whnf) | (refine optK_of (intA (by omega)) ?_; conv => whnf) | (refine optK_of (intA' (by omega)) ?_; conv => whnf))
  cases h1 : decide ((c : Int) < 2 * r.w + 1)
  · have hcn : c = (2 * r.w + 1).toNat := by simp at h1; omega
    subst hcn
    rw [ptR_all z0]
    conv => whnf
    repeat (first | (refine And.intro (by first | exact Nat.le_of_ble_eq_true rfl | exact mapOkP | exact rfl | decide | omega | (simp [splice]; done) | (constructor <;> omega) | (simp [splice]; omega)) ?_; conv => whnf) | (refine optK_of (raiA (by omega)) ?_; conv => whnf) | (refine optK_of (raiA' (by omega)) ?_; conv => whnf) | (refine optK_of (dripA (by omega) (by omega)) ?_; conv => whnf) | (refine optK_of (roofN (by omega) (by omega)) ?_; conv => whnf) | (refine optK_of (gridN (by omega) (by omega)) ?_; conv => whnf) | (refine optK_of (flowG) ?_; conv => whnf) | (refine optK_of (flowM) ?_; conv => whnf) | (refine optK_of (intA (by omega)) ?_; conv => whnf) | (refine optK_of (intA' (by omega)) ?_; conv => whnf))
    rw [ti201_size, end138 (by simp) (by simp)]
    refine ⟨_, expFlow rfl rfl, ?_⟩
    have e1 : List.take ((2 * r.w + 1).toNat * 1) (List.drop 0 (intsC (gtL r w (2 * r.w + 1).toNat))) = intsC (gtL r w (2 * r.w + 1).toNat) := by rw [List.drop_zero, take_full (by simp)]
    refine Eq.trans (b := D.agg (dripL (dR r w) ++ [.row true 1 (.v (.agg ⟨List.take ((2 * r.w + 1).toNat * 1) (List.drop 0 (intsC (gtL r w (2 * r.w + 1).toNat)))⟩)) (2 * r.w + 1).toNat, .junk])) ?_ rfl
    rw [e1]
    unfold intsD
    rw [gtL_len]
  have hcn : (c : Int) < 2 * r.w + 1 := by simpa using h1
  have hwc := hw c (by omega)
  conv => whnf
  repeat (first | (refine And.intro (by first | exact Nat.le_of_ble_eq_true rfl | exact mapOkP | exact rfl | decide | omega | (simp [splice]; done) | (constructor <;> omega) | (simp [splice]; omega)) ?_; conv => whnf) | (refine optK_of (raiA (by omega)) ?_; conv => whnf) | (refine optK_of (raiA' (by omega)) ?_; conv => whnf) | (refine optK_of (dripA (by omega) (by omega)) ?_; conv => whnf) | (refine optK_of (roofN (by omega) (by omega)) ?_; conv => whnf) | (refine optK_of (gridN (by omega) (by omega)) ?_; conv => whnf) | (refine optK_of (flowG) ?_; conv => whnf) | (refine optK_of (flowM) ?_; conv => whnf) | (refine optK_of (intA (by omega)) ?_; conv => whnf) | (refine optK_of (intA' (by omega)) ?_; conv => whnf))
  rw [show IntKind.i32.wrap (w c) = w c from w32 (by omega) (by omega), eh]
  refine loop_rule (α := Nat) (fun i => [(2, .ptr (2, 0, 0) 0), (3, .ptr (3, 0, 0) 0), (4, .ptr (4, 0, 0) 0), (5, .ptr (5, 0, 0) 0), (6, .v (.int .i64 c)), (7, .v (.int .i32 (wtI r w c i))), (14, .v (.int .i64 (2 * r.w + 1))), (15, .v (.int .i64 c)), (24, .v (.int .i64 r.h)), (25, .v (.int .i64 i))]) (fun i => [((2, 0, 0), roofD r), ((3, 0, 0), raiD w), ((4, 0, 0), .v (.agg ⟨List.replicate 136 (.int .i32 0) ++ [.slice none 0 0] ++ [.map none]⟩)), ((5, 0, 0), .agg (dripL (ptR (dR r w) c i) ++ [.slc true 1 (71, 0, 0) 0 c, .mp])), ((71, 0, 0), .v (.agg ⟨intsC (gtL r w c)⟩))]) (fun i => i ≤ r.h.toNat) (fun i => r.h.toNat - i) (0) ?_ (sim_of (rn := [((2, 0, 0), (2, 0, 0)), ((3, 0, 0), (3, 0, 0)), ((4, 0, 0), (4, 0, 0)), ((5, 0, 0), (5, 0, 0)), ((71, 0, 0), (71, 0, 0))]) rfl ?_ ?_) ?_
  · first | omega | (dsimp only; omega) | ((repeat' apply And.intro) <;> omega) | (dsimp only; (repeat' apply And.intro) <;> omega) | trivial
  · ((repeat' (first | exact trivial | apply And.intro)) <;> (first | rfl | exact succ8 (by omega) | exact succ64 (by omega) | exact CapOk.fn (by assumption) _ _ | exact vintS (by omega) | exact vintS (by rw [w64 (by omega) (by omega)]; omega) | exact vintS (by rw [w8 (by omega) (by omega)]; omega) | exact vslcS (by omega) | exact vslcS (by simp)))
  · ((repeat' (first | exact trivial | apply And.intro)) <;> ((first | refine ⟨_, _, rfl, rfl, ?_⟩ | refine ⟨_, _, rfl, renFlow rfl rfl, ?_⟩); rfl))
  intro i hi
  have hwi := wtI_in r (w := w) (c := c) hwc i
  have hdi := drI_in r i c hwi.1
  conv => whnf
  repeat (first | (refine And.intro (by first | exact Nat.le_of_ble_eq_true rfl | exact mapOkP | exact rfl | decide | omega | (simp [splice]; done) | (constructor <;> omega) | (simp [splice]; omega)) ?_; conv => whnf) | (refine optK_of (raiA (by omega)) ?_; conv => whnf) | (refine optK_of (raiA' (by omega)) ?_; conv => whnf) | (refine optK_of (dripA (by omega) (by omega)) ?_; conv => whnf) | (refine optK_of (roofN (by omega) (by omega)) ?_; conv => whnf) | (refine optK_of (gridN (by omega) (by omega)) ?_; conv => whnf) | (refine optK_of (flowG) ?_; conv => whnf) | (refine optK_of (flowM) ?_; conv => whnf) | (refine optK_of (intA (by omega)) ?_; conv => whnf) | (refine optK_of (intA' (by omega)) ?_; conv => whnf))
  cases h2 : decide ((i : Int) < r.h)
  · have hih : i = r.h.toNat := by simp at h2; omega
    subst hih
    have e2 : intsC (gtL r w c) ++ [.int .i64 (wtI r w c r.h.toNat)] = intsC (gtL r w (c + 1)) := by rw [gtL_next, intsC_append, intsC_one]
    have c0 : ptR (dR r w) c r.h.toNat = ptR (dR r w) (c + 1) 0 := ptR_col fun i hi => by unfold dR; rw [if_neg (by unfold onR; omega)]
    have e64 : IntKind.i64.wrap (wtI r w c r.h.toNat) = wtI r w c r.h.toNat := w64 (by omega) (by omega)
    rw [c0]
    conv => whnf
    repeat (first | (refine And.intro (by first | exact Nat.le_of_ble_eq_true rfl | exact mapOkP | exact rfl | decide | omega | (simp [splice]; done) | (constructor <;> omega) | (simp [splice]; omega)) ?_; conv => whnf) | (refine optK_of (raiA (by omega)) ?_; conv => whnf) | (refine optK_of (raiA' (by omega)) ?_; conv => whnf) | (refine optK_of (dripA (by omega) (by omega)) ?_; conv => whnf) | (refine optK_of (roofN (by omega) (by omega)) ?_; conv => whnf) | (refine optK_of (gridN (by omega) (by omega)) ?_; conv => whnf) | (refine optK_of (flowG) ?_; conv => whnf) | (refine optK_of (flowM) ?_; conv => whnf) | (refine optK_of (intA (by omega)) ?_; conv => whnf) | (refine optK_of (intA' (by omega)) ?_; conv => whnf))
    refine ⟨c + 1, ?_, ?_, sim_of (rn := [((2, 0, 0), (2, 0, 0)), ((3, 0, 0), (3, 0, 0)), ((4, 0, 0), (4, 0, 0)), ((5, 0, 0), (5, 0, 0)), ((71, 0, 0), (71, 1, 0))]) rfl ?_ ?_⟩
    · (dsimp only; omega)
    · first | omega | (dsimp only; omega) | ((repeat' apply And.intro) <;> omega) | (dsimp only; (repeat' apply And.intro) <;> omega) | trivial
    · ((repeat' (first | exact trivial | apply And.intro)) <;> (first | rfl | exact succ8 (by omega) | exact succ64 (by omega) | exact CapOk.fn (by assumption) _ _ | exact vintS (by omega) | exact vintS (by rw [w64 (by omega) (by omega)]; omega) | exact vintS (by rw [w8 (by omega) (by omega)]; omega) | exact vslcS (by omega) | exact vslcS (by simp)))
    · ((repeat' (first | exact trivial | apply And.intro)) <;> ((first | refine ⟨_, _, rfl, rfl, ?_⟩ | refine ⟨_, _, rfl, renFlow rfl rfl, ?_⟩); first | (first | exact congrArg (fun l => some (D.agg l)) flow_setG | exact cset (by rw [e64]; exact e2)) | rfl))
  have hih : (i : Int) < r.h := by simpa using h2
  have hon : onR r i c := ⟨hih, hcn⟩
  have ed : dR r w i c = drI r i c (wtI r w c i) := by unfold dR; rw [if_pos hon]
  have setF : ∀ (o : Nat), o = i * 17 + c → ∀ x y : D, (dripL (ptR (dR r w) c i) ++ [x, y]).set o (.v (.int .i32 (drI r i c (wtI r w c i)))) = dripL (ptR (dR r w) c (i + 1)) ++ [x, y] := fun o ho x y => by
    rw [flow_set (i := i) (c := c) ho (by omega) (by omega), ← ed, ptR_put]
  have ew : wtI r w c (i + 1) = IntKind.i32.wrap (wtI r w c i - drI r i c (wtI r w c i)) := by rw [w32 (by omega) (by omega)]; rfl
  have cov2 : Sat Try.prog 192 [roofD r, .v (.int .i64 (IntKind.i64.wrap ((i : Int) - 1))), .v (.int .i64 c)] (.v (.int .u8 (if 0 < i then ovI r (i - 1) c else 0))) := by
    by_cases h0 : 0 < i
    · rw [if_pos h0, show IntKind.i64.wrap ((i : Int) - 1) = ((i - 1 : Nat) : Int) by rw [w64 (by omega) (by omega)]; omega]
      exact covering_sat r hr hb (i - 1) c (by omega) (by omega)
    · rw [if_neg h0]
      exact coveringNo_sat r c _ (by rw [w64 (by omega) (by omega)]; omega)
  clear h2
  conv => whnf
  repeat (first | (refine And.intro (by first | exact Nat.le_of_ble_eq_true rfl | exact mapOkP | exact rfl | decide | omega | (simp [splice]; done) | (constructor <;> omega) | (simp [splice]; omega)) ?_; conv => whnf) | (refine optK_of (raiA (by omega)) ?_; conv => whnf) | (refine optK_of (raiA' (by omega)) ?_; conv => whnf) | (refine optK_of (dripA (by omega) (by omega)) ?_; conv => whnf) | (refine optK_of (roofN (by omega) (by omega)) ?_; conv => whnf) | (refine optK_of (gridN (by omega) (by omega)) ?_; conv => whnf) | (refine optK_of (flowG) ?_; conv => whnf) | (refine optK_of (flowM) ?_; conv => whnf) | (refine optK_of (intA (by omega)) ?_; conv => whnf) | (refine optK_of (intA' (by omega)) ?_; conv => whnf))
  first | refine ⟨_, _, rfl, Sat.of_eq (tileAt_sat r hr hb i c (by omega) (by omega)) (by repeat (first | rfl | exact vfull (by first | (simp [splice]; done) | (simp [splice]; omega)) | exact rfull (by first | (simp [splice]; done) | (simp [splice]; omega)) | exact vplace (by simp; done) (by omega) | exact vrow (by simp; done) (by omega) | exact vtiles (by simp) | exact vsplice (by simp) (by simp) | refine ceq ?_ ?_ | refine Eq.trans (vsplice (by first | (simp; done) | (simp; omega)) (by first | (simp; done) | (simp; omega))) ?_)), ?_⟩ | refine .inl ⟨_, _, rfl, Sat.of_eq (tileAt_sat r hr hb i c (by omega) (by omega)) (by repeat (first | rfl | exact vfull (by first | (simp [splice]; done) | (simp [splice]; omega)) | exact rfull (by first | (simp [splice]; done) | (simp [splice]; omega)) | exact vplace (by simp; done) (by omega) | exact vrow (by simp; done) (by omega) | exact vtiles (by simp) | exact vsplice (by simp) (by simp) | refine ceq ?_ ?_ | refine Eq.trans (vsplice (by first | (simp; done) | (simp; omega)) (by first | (simp; done) | (simp; omega))) ?_)), ?_⟩
  conv => whnf
  repeat (first | (refine And.intro (by first | exact Nat.le_of_ble_eq_true rfl | exact mapOkP | exact rfl | decide | omega | (simp [splice]; done) | (constructor <;> omega) | (simp [splice]; omega)) ?_; conv => whnf) | (refine optK_of (raiA (by omega)) ?_; conv => whnf) | (refine optK_of (raiA' (by omega)) ?_; conv => whnf) | (refine optK_of (dripA (by omega) (by omega)) ?_; conv => whnf) | (refine optK_of (roofN (by omega) (by omega)) ?_; conv => whnf) | (refine optK_of (gridN (by omega) (by omega)) ?_; conv => whnf) | (refine optK_of (flowG) ?_; conv => whnf) | (refine optK_of (flowM) ?_; conv => whnf) | (refine optK_of (intA (by omega)) ?_; conv => whnf) | (refine optK_of (intA' (by omega)) ?_; conv => whnf))
  cases h3 : (tlI r i c != -1)
  case true =>
    conv => whnf
    repeat (first | (refine And.intro (by first | exact Nat.le_of_ble_eq_true rfl | exact mapOkP | exact rfl | decide | omega | (simp [splice]; done) | (constructor <;> omega) | (simp [splice]; omega)) ?_; conv => whnf) | (refine optK_of (raiA (by omega)) ?_; conv => whnf) | (refine optK_of (raiA' (by omega)) ?_; conv => whnf) | (refine optK_of (dripA (by omega) (by omega)) ?_; conv => whnf) | (refine optK_of (roofN (by omega) (by omega)) ?_; conv => whnf) | (refine optK_of (gridN (by omega) (by omega)) ?_; conv => whnf) | (refine optK_of (flowG) ?_; conv => whnf) | (refine optK_of (flowM) ?_; conv => whnf) | (refine optK_of (intA (by omega)) ?_; conv => whnf) | (refine optK_of (intA' (by omega)) ?_; conv => whnf))
    cases h4 : decide (wtI r w c i > 0)
    case' true => refine region11 rfl rfl rfl rfl ?_
    all_goals
      clear h4
      conv => whnf
      repeat (first | (refine And.intro (by first | exact Nat.le_of_ble_eq_true rfl | exact mapOkP | exact rfl | decide | omega | (simp [splice]; done) | (constructor <;> omega) | (simp [splice]; omega)) ?_; conv => whnf) | (refine optK_of (raiA (by omega)) ?_; conv => whnf) | (refine optK_of (raiA' (by omega)) ?_; conv => whnf) | (refine optK_of (dripA (by omega) (by omega)) ?_; conv => whnf) | (refine optK_of (roofN (by omega) (by omega)) ?_; conv => whnf) | (refine optK_of (gridN (by omega) (by omega)) ?_; conv => whnf) | (refine optK_of (flowG) ?_; conv => whnf) | (refine optK_of (flowM) ?_; conv => whnf) | (refine optK_of (intA (by omega)) ?_; conv => whnf) | (refine optK_of (intA' (by omega)) ?_; conv => whnf))
      first | refine ⟨_, _, rfl, Sat.of_eq (covering_sat r hr hb i c (by omega) (by omega)) (by repeat (first | rfl | exact vfull (by first | (simp [splice]; done) | (simp [splice]; omega)) | exact rfull (by first | (simp [splice]; done) | (simp [splice]; omega)) | exact vplace (by simp; done) (by omega) | exact vrow (by simp; done) (by omega) | exact vtiles (by simp) | exact vsplice (by simp) (by simp) | refine ceq ?_ ?_ | refine Eq.trans (vsplice (by first | (simp; done) | (simp; omega)) (by first | (simp; done) | (simp; omega))) ?_)), ?_⟩ | refine .inl ⟨_, _, rfl, Sat.of_eq (covering_sat r hr hb i c (by omega) (by omega)) (by repeat (first | rfl | exact vfull (by first | (simp [splice]; done) | (simp [splice]; omega)) | exact rfull (by first | (simp [splice]; done) | (simp [splice]; omega)) | exact vplace (by simp; done) (by omega) | exact vrow (by simp; done) (by omega) | exact vtiles (by simp) | exact vsplice (by simp) (by simp) | refine ceq ?_ ?_ | refine Eq.trans (vsplice (by first | (simp; done) | (simp; omega)) (by first | (simp; done) | (simp; omega))) ?_)), ?_⟩
      conv => whnf
      repeat (first | (refine And.intro (by first | exact Nat.le_of_ble_eq_true rfl | exact mapOkP | exact rfl | decide | omega | (simp [splice]; done) | (constructor <;> omega) | (simp [splice]; omega)) ?_; conv => whnf) | (refine optK_of (raiA (by omega)) ?_; conv => whnf) | (refine optK_of (raiA' (by omega)) ?_; conv => whnf) | (refine optK_of (dripA (by omega) (by omega)) ?_; conv => whnf) | (refine optK_of (roofN (by omega) (by omega)) ?_; conv => whnf) | (refine optK_of (gridN (by omega) (by omega)) ?_; conv => whnf) | (refine optK_of (flowG) ?_; conv => whnf) | (refine optK_of (flowM) ?_; conv => whnf) | (refine optK_of (intA (by omega)) ?_; conv => whnf) | (refine optK_of (intA' (by omega)) ?_; conv => whnf))
      first | refine ⟨_, _, rfl, Sat.of_eq (cov2) (by repeat (first | rfl | exact vfull (by first | (simp [splice]; done) | (simp [splice]; omega)) | exact rfull (by first | (simp [splice]; done) | (simp [splice]; omega)) | exact vplace (by simp; done) (by omega) | exact vrow (by simp; done) (by omega) | exact vtiles (by simp) | exact vsplice (by simp) (by simp) | refine ceq ?_ ?_ | refine Eq.trans (vsplice (by first | (simp; done) | (simp; omega)) (by first | (simp; done) | (simp; omega))) ?_)), ?_⟩ | refine .inl ⟨_, _, rfl, Sat.of_eq (cov2) (by repeat (first | rfl | exact vfull (by first | (simp [splice]; done) | (simp [splice]; omega)) | exact rfull (by first | (simp [splice]; done) | (simp [splice]; omega)) | exact vplace (by simp; done) (by omega) | exact vrow (by simp; done) (by omega) | exact vtiles (by simp) | exact vsplice (by simp) (by simp) | refine ceq ?_ ?_ | refine Eq.trans (vsplice (by first | (simp; done) | (simp; omega)) (by first | (simp; done) | (simp; omega))) ?_)), ?_⟩
      conv => whnf
      repeat (first | (refine And.intro (by first | exact Nat.le_of_ble_eq_true rfl | exact mapOkP | exact rfl | decide | omega | (simp [splice]; done) | (constructor <;> omega) | (simp [splice]; omega)) ?_; conv => whnf) | (refine optK_of (raiA (by omega)) ?_; conv => whnf) | (refine optK_of (raiA' (by omega)) ?_; conv => whnf) | (refine optK_of (dripA (by omega) (by omega)) ?_; conv => whnf) | (refine optK_of (roofN (by omega) (by omega)) ?_; conv => whnf) | (refine optK_of (gridN (by omega) (by omega)) ?_; conv => whnf) | (refine optK_of (flowG) ?_; conv => whnf) | (refine optK_of (flowM) ?_; conv => whnf) | (refine optK_of (intA (by omega)) ?_; conv => whnf) | (refine optK_of (intA' (by omega)) ?_; conv => whnf))
      first | refine ⟨_, _, rfl, Sat.of_eq (dripOf_sat _ _ _ hwi) (by repeat (first | rfl | exact vfull (by first | (simp [splice]; done) | (simp [splice]; omega)) | exact rfull (by first | (simp [splice]; done) | (simp [splice]; omega)) | exact vplace (by simp; done) (by omega) | exact vrow (by simp; done) (by omega) | exact vtiles (by simp) | exact vsplice (by simp) (by simp) | refine ceq ?_ ?_ | refine Eq.trans (vsplice (by first | (simp; done) | (simp; omega)) (by first | (simp; done) | (simp; omega))) ?_)), ?_⟩ | refine .inl ⟨_, _, rfl, Sat.of_eq (dripOf_sat _ _ _ hwi) (by repeat (first | rfl | exact vfull (by first | (simp [splice]; done) | (simp [splice]; omega)) | exact rfull (by first | (simp [splice]; done) | (simp [splice]; omega)) | exact vplace (by simp; done) (by omega) | exact vrow (by simp; done) (by omega) | exact vtiles (by simp) | exact vsplice (by simp) (by simp) | refine ceq ?_ ?_ | refine Eq.trans (vsplice (by first | (simp; done) | (simp; omega)) (by first | (simp; done) | (simp; omega))) ?_)), ?_⟩
      conv => whnf
      repeat (first | (refine And.intro (by first | exact Nat.le_of_ble_eq_true rfl | exact mapOkP | exact rfl | decide | omega | (simp [splice]; done) | (constructor <;> omega) | (simp [splice]; omega)) ?_; conv => whnf) | (refine optK_of (raiA (by omega)) ?_; conv => whnf) | (refine optK_of (raiA' (by omega)) ?_; conv => whnf) | (refine optK_of (dripA (by omega) (by omega)) ?_; conv => whnf) | (refine optK_of (roofN (by omega) (by omega)) ?_; conv => whnf) | (refine optK_of (gridN (by omega) (by omega)) ?_; conv => whnf) | (refine optK_of (flowG) ?_; conv => whnf) | (refine optK_of (flowM) ?_; conv => whnf) | (refine optK_of (intA (by omega)) ?_; conv => whnf) | (refine optK_of (intA' (by omega)) ?_; conv => whnf))
      rw [dofI_eq]
      repeat (first | (refine And.intro (by first | exact Nat.le_of_ble_eq_true rfl | exact mapOkP | exact rfl | decide | omega | (simp [splice]; done) | (constructor <;> omega) | (simp [splice]; omega)) ?_; conv => whnf) | (refine optK_of (raiA (by omega)) ?_; conv => whnf) | (refine optK_of (raiA' (by omega)) ?_; conv => whnf) | (refine optK_of (dripA (by omega) (by omega)) ?_; conv => whnf) | (refine optK_of (roofN (by omega) (by omega)) ?_; conv => whnf) | (refine optK_of (gridN (by omega) (by omega)) ?_; conv => whnf) | (refine optK_of (flowG) ?_; conv => whnf) | (refine optK_of (flowM) ?_; conv => whnf) | (refine optK_of (intA (by omega)) ?_; conv => whnf) | (refine optK_of (intA' (by omega)) ?_; conv => whnf))
      refine ⟨i + 1, ?_, ?_, sim_of (rn := [((2, 0, 0), (2, 0, 0)), ((3, 0, 0), (3, 0, 0)), ((4, 0, 0), (4, 0, 0)), ((5, 0, 0), (5, 0, 0)), ((71, 0, 0), (71, 0, 0))]) rfl ?_ ?_⟩
      · (dsimp only; omega)
      · first | omega | (dsimp only; omega) | ((repeat' apply And.intro) <;> omega) | (dsimp only; (repeat' apply And.intro) <;> omega) | trivial
      · ((repeat' (first | exact trivial | apply And.intro)) <;> (first | rfl | (exact vintS ew) | exact succ8 (by omega) | exact succ64 (by omega) | exact CapOk.fn (by assumption) _ _ | exact vintS (by omega) | exact vintS (by rw [w64 (by omega) (by omega)]; omega) | exact vintS (by rw [w8 (by omega) (by omega)]; omega) | exact vslcS (by omega) | exact vslcS (by simp)))
      · ((repeat' (first | exact trivial | apply And.intro)) <;> ((first | refine ⟨_, _, rfl, rfl, ?_⟩ | refine ⟨_, _, rfl, renFlow rfl rfl, ?_⟩); first | (((conv => lhs; whnf); exact congrArg (fun l => some (D.agg l)) (setF _ (by simp) _ _))) | rfl))
  conv => whnf
  repeat (first | (refine And.intro (by first | exact Nat.le_of_ble_eq_true rfl | exact mapOkP | exact rfl | decide | omega | (simp [splice]; done) | (constructor <;> omega) | (simp [splice]; omega)) ?_; conv => whnf) | (refine optK_of (raiA (by omega)) ?_; conv => whnf) | (refine optK_of (raiA' (by omega)) ?_; conv => whnf) | (refine optK_of (dripA (by omega) (by omega)) ?_; conv => whnf) | (refine optK_of (roofN (by omega) (by omega)) ?_; conv => whnf) | (refine optK_of (gridN (by omega) (by omega)) ?_; conv => whnf) | (refine optK_of (flowG) ?_; conv => whnf) | (refine optK_of (flowM) ?_; conv => whnf) | (refine optK_of (intA (by omega)) ?_; conv => whnf) | (refine optK_of (intA' (by omega)) ?_; conv => whnf))
  first | refine ⟨_, _, rfl, Sat.of_eq (covering_sat r hr hb i c (by omega) (by omega)) (by repeat (first | rfl | exact vfull (by first | (simp [splice]; done) | (simp [splice]; omega)) | exact rfull (by first | (simp [splice]; done) | (simp [splice]; omega)) | exact vplace (by simp; done) (by omega) | exact vrow (by simp; done) (by omega) | exact vtiles (by simp) | exact vsplice (by simp) (by simp) | refine ceq ?_ ?_ | refine Eq.trans (vsplice (by first | (simp; done) | (simp; omega)) (by first | (simp; done) | (simp; omega))) ?_)), ?_⟩ | refine .inl ⟨_, _, rfl, Sat.of_eq (covering_sat r hr hb i c (by omega) (by omega)) (by repeat (first | rfl | exact vfull (by first | (simp [splice]; done) | (simp [splice]; omega)) | exact rfull (by first | (simp [splice]; done) | (simp [splice]; omega)) | exact vplace (by simp; done) (by omega) | exact vrow (by simp; done) (by omega) | exact vtiles (by simp) | exact vsplice (by simp) (by simp) | refine ceq ?_ ?_ | refine Eq.trans (vsplice (by first | (simp; done) | (simp; omega)) (by first | (simp; done) | (simp; omega))) ?_)), ?_⟩
  conv => whnf
  repeat (first | (refine And.intro (by first | exact Nat.le_of_ble_eq_true rfl | exact mapOkP | exact rfl | decide | omega | (simp [splice]; done) | (constructor <;> omega) | (simp [splice]; omega)) ?_; conv => whnf) | (refine optK_of (raiA (by omega)) ?_; conv => whnf) | (refine optK_of (raiA' (by omega)) ?_; conv => whnf) | (refine optK_of (dripA (by omega) (by omega)) ?_; conv => whnf) | (refine optK_of (roofN (by omega) (by omega)) ?_; conv => whnf) | (refine optK_of (gridN (by omega) (by omega)) ?_; conv => whnf) | (refine optK_of (flowG) ?_; conv => whnf) | (refine optK_of (flowM) ?_; conv => whnf) | (refine optK_of (intA (by omega)) ?_; conv => whnf) | (refine optK_of (intA' (by omega)) ?_; conv => whnf))
  first | refine ⟨_, _, rfl, Sat.of_eq (cov2) (by repeat (first | rfl | exact vfull (by first | (simp [splice]; done) | (simp [splice]; omega)) | exact rfull (by first | (simp [splice]; done) | (simp [splice]; omega)) | exact vplace (by simp; done) (by omega) | exact vrow (by simp; done) (by omega) | exact vtiles (by simp) | exact vsplice (by simp) (by simp) | refine ceq ?_ ?_ | refine Eq.trans (vsplice (by first | (simp; done) | (simp; omega)) (by first | (simp; done) | (simp; omega))) ?_)), ?_⟩ | refine .inl ⟨_, _, rfl, Sat.of_eq (cov2) (by repeat (first | rfl | exact vfull (by first | (simp [splice]; done) | (simp [splice]; omega)) | exact rfull (by first | (simp [splice]; done) | (simp [splice]; omega)) | exact vplace (by simp; done) (by omega) | exact vrow (by simp; done) (by omega) | exact vtiles (by simp) | exact vsplice (by simp) (by simp) | refine ceq ?_ ?_ | refine Eq.trans (vsplice (by first | (simp; done) | (simp; omega)) (by first | (simp; done) | (simp; omega))) ?_)), ?_⟩
  conv => whnf
  repeat (first | (refine And.intro (by first | exact Nat.le_of_ble_eq_true rfl | exact mapOkP | exact rfl | decide | omega | (simp [splice]; done) | (constructor <;> omega) | (simp [splice]; omega)) ?_; conv => whnf) | (refine optK_of (raiA (by omega)) ?_; conv => whnf) | (refine optK_of (raiA' (by omega)) ?_; conv => whnf) | (refine optK_of (dripA (by omega) (by omega)) ?_; conv => whnf) | (refine optK_of (roofN (by omega) (by omega)) ?_; conv => whnf) | (refine optK_of (gridN (by omega) (by omega)) ?_; conv => whnf) | (refine optK_of (flowG) ?_; conv => whnf) | (refine optK_of (flowM) ?_; conv => whnf) | (refine optK_of (intA (by omega)) ?_; conv => whnf) | (refine optK_of (intA' (by omega)) ?_; conv => whnf))
  first | refine ⟨_, _, rfl, Sat.of_eq (dripOf_sat _ _ _ hwi) (by repeat (first | rfl | exact vfull (by first | (simp [splice]; done) | (simp [splice]; omega)) | exact rfull (by first | (simp [splice]; done) | (simp [splice]; omega)) | exact vplace (by simp; done) (by omega) | exact vrow (by simp; done) (by omega) | exact vtiles (by simp) | exact vsplice (by simp) (by simp) | refine ceq ?_ ?_ | refine Eq.trans (vsplice (by first | (simp; done) | (simp; omega)) (by first | (simp; done) | (simp; omega))) ?_)), ?_⟩ | refine .inl ⟨_, _, rfl, Sat.of_eq (dripOf_sat _ _ _ hwi) (by repeat (first | rfl | exact vfull (by first | (simp [splice]; done) | (simp [splice]; omega)) | exact rfull (by first | (simp [splice]; done) | (simp [splice]; omega)) | exact vplace (by simp; done) (by omega) | exact vrow (by simp; done) (by omega) | exact vtiles (by simp) | exact vsplice (by simp) (by simp) | refine ceq ?_ ?_ | refine Eq.trans (vsplice (by first | (simp; done) | (simp; omega)) (by first | (simp; done) | (simp; omega))) ?_)), ?_⟩
  conv => whnf
  repeat (first | (refine And.intro (by first | exact Nat.le_of_ble_eq_true rfl | exact mapOkP | exact rfl | decide | omega | (simp [splice]; done) | (constructor <;> omega) | (simp [splice]; omega)) ?_; conv => whnf) | (refine optK_of (raiA (by omega)) ?_; conv => whnf) | (refine optK_of (raiA' (by omega)) ?_; conv => whnf) | (refine optK_of (dripA (by omega) (by omega)) ?_; conv => whnf) | (refine optK_of (roofN (by omega) (by omega)) ?_; conv => whnf) | (refine optK_of (gridN (by omega) (by omega)) ?_; conv => whnf) | (refine optK_of (flowG) ?_; conv => whnf) | (refine optK_of (flowM) ?_; conv => whnf) | (refine optK_of (intA (by omega)) ?_; conv => whnf) | (refine optK_of (intA' (by omega)) ?_; conv => whnf))
  rw [dofI_eq]
  repeat (first | (refine And.intro (by first | exact Nat.le_of_ble_eq_true rfl | exact mapOkP | exact rfl | decide | omega | (simp [splice]; done) | (constructor <;> omega) | (simp [splice]; omega)) ?_; conv => whnf) | (refine optK_of (raiA (by omega)) ?_; conv => whnf) | (refine optK_of (raiA' (by omega)) ?_; conv => whnf) | (refine optK_of (dripA (by omega) (by omega)) ?_; conv => whnf) | (refine optK_of (roofN (by omega) (by omega)) ?_; conv => whnf) | (refine optK_of (gridN (by omega) (by omega)) ?_; conv => whnf) | (refine optK_of (flowG) ?_; conv => whnf) | (refine optK_of (flowM) ?_; conv => whnf) | (refine optK_of (intA (by omega)) ?_; conv => whnf) | (refine optK_of (intA' (by omega)) ?_; conv => whnf))
  refine ⟨i + 1, ?_, ?_, sim_of (rn := [((2, 0, 0), (2, 0, 0)), ((3, 0, 0), (3, 0, 0)), ((4, 0, 0), (4, 0, 0)), ((5, 0, 0), (5, 0, 0)), ((71, 0, 0), (71, 0, 0))]) rfl ?_ ?_⟩
  · (dsimp only; omega)
  · first | omega | (dsimp only; omega) | ((repeat' apply And.intro) <;> omega) | (dsimp only; (repeat' apply And.intro) <;> omega) | trivial
  · ((repeat' (first | exact trivial | apply And.intro)) <;> (first | rfl | (exact vintS ew) | exact succ8 (by omega) | exact succ64 (by omega) | exact CapOk.fn (by assumption) _ _ | exact vintS (by omega) | exact vintS (by rw [w64 (by omega) (by omega)]; omega) | exact vintS (by rw [w8 (by omega) (by omega)]; omega) | exact vslcS (by omega) | exact vslcS (by simp)))
  · ((repeat' (first | exact trivial | apply And.intro)) <;> ((first | refine ⟨_, _, rfl, rfl, ?_⟩ | refine ⟨_, _, rfl, renFlow rfl rfl, ?_⟩); first | (((conv => lhs; whnf); exact congrArg (fun l => some (D.agg l)) (setF _ (by simp) _ _))) | rfl))
end Go.Proofs.Ytndlknhakdadjaa
/- Plain words: rain that is valid, how much drips in all, the best tile to make whole. -/
set_option linter.unusedVariables false
set_option linter.unusedSimpArgs false
namespace Go.V
def rnB (r : Roof) (w : Nat → Int) (c : Nat) : Bool := deepB (w c) && !(decide ((c : Int) ≥ 2 * r.w + 1) && w c != 0)
def okN (r : Roof) (w : Nat → Int) : Bool := okR r && (List.range 17).all (rnB r w)
theorem okN_R {r : Roof} {w : Nat → Int} (h : okN r w = true) : okR r = true := by unfold okN at h; rw [Bool.and_eq_true] at h; exact h.1
theorem okN_w {r : Roof} {w : Nat → Int} (h : okN r w = true) : ∀ c, c < 17 → 0 ≤ w c ∧ w c ≤ 1000 := by
  intro c hc
  unfold okN at h
  rw [Bool.and_eq_true] at h
  have := List.all_eq_true.1 h.2 c (by simpa using hc)
  unfold rnB at this
  rw [Bool.and_eq_true] at this
  have := this.1
  unfold deepB at this
  simpa using this
theorem okN_no {r : Roof} {w : Nat → Int} {c : Nat} (hc : c < 17) (h : rnB r w c = false) : okN r w = false := by
  unfold okN
  rw [Bool.and_eq_false_iff]
  right
  rw [List.all_eq_false]
  exact ⟨c, by simpa using hc, by simp [h]⟩
theorem okN_yes {r : Roof} {w : Nat → Int} (hR : okR r = true) (h : ∀ c, c < 17 → rnB r w c = true) : okN r w = true := by
  unfold okN
  rw [Bool.and_eq_true]
  exact ⟨hR, List.all_eq_true.2 fun c hc => h c (by simpa using hc)⟩
def smT (p : Nat → Int) : Nat → Int
  | 0 => 0
  | n + 1 => smT p n + p n
/-- The sum of a table's first rows. -/
def totS (f : Nat → Nat → Int) (n : Nat) : Int := smT (fun i => smT (f i) 17) n
def InM (f : Nat → Nat → Int) : Prop := ∀ i c, c < 17 → 0 ≤ f i c ∧ f i c ≤ 1000
theorem smT_zero {p : Nat → Int} {m : Nat} (h : ∀ i, i < m → p i = 0) : ∀ n, n ≤ m → smT p n = 0
  | 0, _ => rfl
  | n + 1, hn => by simp only [smT, smT_zero h n (by omega), h n (by omega), Int.add_zero]
/-- How much drips in all. -/
def dsI (r : Roof) (w : Nat → Int) : Int := totS (dR r w) 8
theorem dR_inM (r : Roof) {w : Nat → Int} (h : ∀ c, c < 17 → 0 ≤ w c ∧ w c ≤ 1000) : InM (dR r w) := fun i c hc => dR_in r h hc
/-- How much less drips if a tile is whole. -/
def svI (r : Roof) (w : Nat → Int) (c k : Nat) : Int := dsI r w - dsI (putR r c k 0) w
def wrB (r : Roof) (c k : Nat) : Bool := r.t c k != 0
def wrP (r : Roof) : List Pl := allP r (wrB r)
theorem nthP_mem {ps : List Pl} {i : Nat} (h : i < ps.length) : nthP ps i ∈ ps := List.mem_of_getElem? (nthP_some h)
theorem bestL_mem2 {a : Nat → Nat → Int} {ps : List Pl} : ∀ {i : Nat}, i < ps.length → bestL a ps i ∈ ps
  | 0, h => nthP_mem h
  | i + 1, h => by
    simp only [bestL]
    split
    · exact nthP_mem h
    · exact bestL_mem2 (by omega)
/-- The tile that is best made whole. -/
def bwP (r : Roof) (w : Nat → Int) : Pl := bestL (svI r w) (wrP r) ((wrP r).length - 1)
def mdR (r : Roof) (w : Nat → Int) : Nat → Roof
  | 0 => r
  | n + 1 => putR (mdR r w n) (bwP (mdR r w n) w).1 (bwP (mdR r w n) w).2 0
def mdL (r : Roof) (w : Nat → Int) : Nat → List Pl
  | 0 => []
  | n + 1 => mdL r w n ++ [bwP (mdR r w n) w]
@[simp] theorem mdR_w (r : Roof) (w : Nat → Int) : ∀ n, (mdR r w n).w = r.w
  | 0 => rfl
  | n + 1 => mdR_w r w n
@[simp] theorem mdR_h (r : Roof) (w : Nat → Int) : ∀ n, (mdR r w n).h = r.h
  | 0 => rfl
  | n + 1 => mdR_h r w n
@[simp] theorem mdR_s (r : Roof) (w : Nat → Int) : ∀ n, (mdR r w n).s = r.s
  | 0 => rfl
  | n + 1 => mdR_s r w n
@[simp] theorem mdL_len (r : Roof) (w : Nat → Int) : ∀ n, (mdL r w n).length = n
  | 0 => rfl
  | n + 1 => by simp [mdL, mdL_len r w n]
theorem wrP_eq (r : Roof) : wrP r = (gridP r.w.toNat r.h.toNat).filter fun q => wrB r q.1 q.2 := allP_eq r _
theorem wrP_drop {r : Roof} {q : Pl} (h : q ∈ wrP r) : (wrP (putR r q.1 q.2 0)).length < (wrP r).length := by
  rw [wrP_eq] at h
  rw [wrP_eq, wrP_eq]
  show ((gridP r.w.toNat r.h.toNat).filter fun x => wrB (putR r q.1 q.2 0) x.1 x.2).length < _
  have e : ((gridP r.w.toNat r.h.toNat).filter fun x => wrB (putR r q.1 q.2 0) x.1 x.2) = ((gridP r.w.toNat r.h.toNat).filter fun q => wrB r q.1 q.2).filter fun x => x != q := by
    rw [List.filter_filter]
    apply List.filter_congr
    intro x _
    unfold wrB putR putG
    by_cases hx : x = q
    · subst hx; simp
    · have : ¬ (x.1 = q.1 ∧ x.2 = q.2) := fun h => hx (Prod.ext h.1 h.2)
      have hx' : (x != q) = true := by simpa using hx
      simp [this, hx']
  rw [e]
  exact List.length_filter_lt_length_iff_exists.2 ⟨q, h, by simp⟩
theorem wrP_ne {r : Roof} {w : Nat → Int} (hw : ∀ c, c < 17 → 0 ≤ w c ∧ w c ≤ 1000) (hb : (1 ≤ r.w ∧ r.w ≤ 8) ∧ (1 ≤ r.h ∧ r.h ≤ 8) ∧ r.s ≤ 1) (h : 0 < dsI r w) : 0 < (wrP r).length := by
  rcases Nat.eq_zero_or_pos (wrP r).length with h0 | h0
  · exfalso
    have hall : ∀ c k : Nat, (c : Int) < r.h → (k : Int) < r.w → r.t c k = 0 := by
      intro c k hc hk
      have hm : (c, k) ∈ gridP r.w.toNat r.h.toNat := by
        unfold gridP rowP
        simp only [List.mem_flatMap, List.mem_range, List.mem_map]
        exact ⟨c, by omega, k, by omega, rfl⟩
      rw [List.length_eq_zero_iff, wrP_eq] at h0
      have := List.filter_eq_nil_iff.1 h0 _ hm
      unfold wrB at this
      simpa using this
    have hd : ∀ i c, dR r w i c = 0 := by
      intro i c
      unfold dR
      split
      · rename_i hon
        have ho : ovI r i c = 0 := by
          have := tlI_range r i c
          unfold ovI
          split
          · rfl
          · exact hall _ _ hon.1 (by omega)
        unfold drI
        rw [ho]
        rfl
      · rfl
    have : dsI r w = 0 := by
      unfold dsI totS
      exact smT_zero (m := 8) (fun i _ => smT_zero (m := 17) (fun c _ => hd i c) 17 (Nat.le_refl _)) 8 (Nat.le_refl _)
    omega
  · exact h0
theorem bwP_mem {r : Roof} {w : Nat → Int} (h : 0 < (wrP r).length) : bwP r w ∈ wrP r := bestL_mem2 (by omega)
/-- What holds before each round. -/
structure MdOk (r : Roof) (w : Nat → Int) (b : Int) (n : Nat) : Prop where
  le : n + (wrP (mdR r w n)).length ≤ 64
  no : ∀ j, j < n → b < dsI (mdR r w j) w
theorem MdOk.zero {r : Roof} (hb : (1 ≤ r.w ∧ r.w ≤ 8) ∧ (1 ≤ r.h ∧ r.h ≤ 8) ∧ r.s ≤ 1) (w : Nat → Int) (b : Int) : MdOk r w b 0 :=
  ⟨by have := allP_len hb (wrB r); show 0 + (wrP r).length ≤ 64; unfold wrP; omega, fun j hj => by omega⟩
theorem MdOk.next {r : Roof} (hb : (1 ≤ r.w ∧ r.w ≤ 8) ∧ (1 ≤ r.h ∧ r.h ≤ 8) ∧ r.s ≤ 1) {w : Nat → Int} (hw : ∀ c, c < 17 → 0 ≤ w c ∧ w c ≤ 1000) {b : Int} (hb0 : 0 ≤ b) {n : Nat} (h : MdOk r w b n) (hd : b < dsI (mdR r w n) w) :
    0 < (wrP (mdR r w n)).length ∧ MdOk r w b (n + 1) := by
  have hne := wrP_ne (r := mdR r w n) hw (by simpa using hb) (by omega)
  refine ⟨hne, ?_, fun j hj => ?_⟩
  · have := wrP_drop (bwP_mem (w := w) hne)
    have h1 := h.le
    simp only [mdR]
    omega
  · by_cases hjn : j = n
    · subst hjn; exact hd
    · exact h.no j (by omega)
end Go.V
/- Contracts: whether rain is valid, how much drips in all, both sides. -/
set_option linter.unusedVariables false
set_option linter.unusedSimpArgs false
namespace Go.V
theorem drip_row {f : Nat → Nat → Int} {o i : Nat} (ho : o = i * 17) (hi : i < 8) : ((dripC f).drop o).take 17 = watC (f i) := by
  subst ho
  unfold dripC watC
  rw [tab_sub (by omega)]
  exact tab_congr fun c hc => by rw [show (i * 17 + c) / 17 = i by omega, show (i * 17 + c) % 17 = c by omega]
def rowsC (f : Nat → Nat → Int) (n : Nat) : List Value := ((dripC f).drop 0).take (n * 17)
def rowsD (f : Nat → Nat → Int) (n : Nat) : D := .row false 17 (.v (.agg ⟨rowsC f n⟩)) n
@[simp] theorem rowsC_len {f : Nat → Nat → Int} {n : Nat} (h : n ≤ 8) : (rowsC f n).length = n * 17 := by unfold rowsC; simp; omega
theorem rows_row {f : Nat → Nat → Int} {o n i : Nat} (ho : o = i * 17) (hi : i < n) (hn : n ≤ 8) : ((rowsC f n).drop o).take 17 = watC (f i) := by
  unfold rowsC
  rw [List.drop_zero, List.drop_take, List.take_take, show min 17 (n * 17 - o) = 17 by omega]
  exact drip_row ho (by omega)
theorem vdrow {f : Nat → Nat → Int} {o n i : Nat} (ho : o = i * 17) (hi : i < n ∧ n ≤ 8) : D.v (.agg ⟨((rowsC f n).drop o).take 17⟩) = watD (f i) := by rw [rows_row ho hi.1 hi.2]; rfl
theorem vrows {f : Nat → Nat → Int} {a b n : Nat} (h : a = n * 17 ∧ b = n) : D.row false 17 (.v (.agg ⟨((dripC f).drop 0).take a⟩)) b = rowsD f n := by rw [h.1, h.2]; rfl
def qL (q : Nat → Int) (n : Nat) : List Int := (List.range n).map q
@[simp] theorem qL_len (q : Nat → Int) (n : Nat) : (qL q n).length = n := by simp [qL]
theorem qL_next (q : Nat → Int) (n : Nat) : qL q (n + 1) = qL q n ++ [q n] := by simp [qL, List.range_succ]
end Go.V
namespace Go.Proofs.Ytndlknhakdadjaa
open Go.V
theorem l02Amount_sat (n : Int) : Sat Try.prog 159 [.v (.int .i64 n)] (.v (.bool (deepB n))) := by
  refine sat_of_wp hMix tOk Try.func159 rfl rfl Try.ntmps159 rfl rfl Try.results159 (by kernel_rfl) ?_
  conv => whnf
  repeat (first | (refine And.intro (by first | exact Nat.le_of_ble_eq_true rfl | exact rfl | decide | omega | (simp [splice]; done) | (constructor <;> omega) | (simp [splice]; omega)) ?_; conv => whnf) | (refine optK_of (raiA (by omega)) ?_; conv => whnf) | (refine optK_of (raiA' (by omega)) ?_; conv => whnf) | (refine optK_of (watA (by omega)) ?_; conv => whnf) | (refine optK_of (watA' (by omega)) ?_; conv => whnf) | (refine optK_of (dripA (by omega) (by omega)) ?_; conv => whnf) | (refine optK_of (roofN (by omega) (by omega)) ?_; conv => whnf) | (refine optK_of (gridN (by omega) (by omega)) ?_; conv => whnf) | (refine optK_of (intA (by omega)) ?_; conv => whnf) | (refine optK_of (intA' (by omega)) ?_; conv => whnf))
  first | refine ⟨_, _, rfl, Sat.of_eq (l00In_sat n 0 1000) (by repeat (first | rfl | exact vfull (by first | (simp [splice]; done) | (simp [splice]; omega)) | exact rfull (by first | (simp [splice]; done) | (simp [splice]; omega)) | exact vdrow (by simp; done) (by omega) | exact vrows (by omega) | exact vplace (by simp; done) (by omega) | exact vrow (by simp; done) (by omega) | exact vtiles (by simp) | exact vsplice (by simp) (by simp) | refine ceq ?_ ?_ | refine Eq.trans (vsplice (by first | (simp; done) | (simp; omega)) (by first | (simp; done) | (simp; omega))) ?_)), ?_⟩ | refine .inl ⟨_, _, rfl, Sat.of_eq (l00In_sat n 0 1000) (by repeat (first | rfl | exact vfull (by first | (simp [splice]; done) | (simp [splice]; omega)) | exact rfull (by first | (simp [splice]; done) | (simp [splice]; omega)) | exact vdrow (by simp; done) (by omega) | exact vrows (by omega) | exact vplace (by simp; done) (by omega) | exact vrow (by simp; done) (by omega) | exact vtiles (by simp) | exact vsplice (by simp) (by simp) | refine ceq ?_ ?_ | refine Eq.trans (vsplice (by first | (simp; done) | (simp; omega)) (by first | (simp; done) | (simp; omega))) ?_)), ?_⟩
  conv => whnf
  repeat (first | (refine And.intro (by first | exact Nat.le_of_ble_eq_true rfl | exact rfl | decide | omega | (simp [splice]; done) | (constructor <;> omega) | (simp [splice]; omega)) ?_; conv => whnf) | (refine optK_of (raiA (by omega)) ?_; conv => whnf) | (refine optK_of (raiA' (by omega)) ?_; conv => whnf) | (refine optK_of (watA (by omega)) ?_; conv => whnf) | (refine optK_of (watA' (by omega)) ?_; conv => whnf) | (refine optK_of (dripA (by omega) (by omega)) ?_; conv => whnf) | (refine optK_of (roofN (by omega) (by omega)) ?_; conv => whnf) | (refine optK_of (gridN (by omega) (by omega)) ?_; conv => whnf) | (refine optK_of (intA (by omega)) ?_; conv => whnf) | (refine optK_of (intA' (by omega)) ?_; conv => whnf))
  first | refine ⟨rfl, _, rfl, ?_⟩ | refine ⟨_, rfl, ?_⟩
  rfl
theorem isAmount16_sat (n : Int) (hn : -32768 ≤ n ∧ n ≤ 32767) : Sat Try.prog 167 [.v (.int .i16 n)] (.v (.bool (deepB n))) := by
  refine sat_of_wp hMix tOk Try.func167 rfl rfl Try.ntmps167 rfl rfl Try.results167 (by kernel_rfl) ?_
  conv => whnf
  repeat (first | (refine And.intro (by first | exact Nat.le_of_ble_eq_true rfl | exact rfl | decide | omega | (simp [splice]; done) | (constructor <;> omega) | (simp [splice]; omega)) ?_; conv => whnf) | (refine optK_of (raiA (by omega)) ?_; conv => whnf) | (refine optK_of (raiA' (by omega)) ?_; conv => whnf) | (refine optK_of (watA (by omega)) ?_; conv => whnf) | (refine optK_of (watA' (by omega)) ?_; conv => whnf) | (refine optK_of (dripA (by omega) (by omega)) ?_; conv => whnf) | (refine optK_of (roofN (by omega) (by omega)) ?_; conv => whnf) | (refine optK_of (gridN (by omega) (by omega)) ?_; conv => whnf) | (refine optK_of (intA (by omega)) ?_; conv => whnf) | (refine optK_of (intA' (by omega)) ?_; conv => whnf))
  rw [show IntKind.i64.wrap n = n from w64 (by omega) (by omega)]
  first | refine ⟨_, _, rfl, Sat.of_eq (within64_sat n 0 1000) (by repeat (first | rfl | exact vfull (by first | (simp [splice]; done) | (simp [splice]; omega)) | exact rfull (by first | (simp [splice]; done) | (simp [splice]; omega)) | exact vdrow (by simp; done) (by omega) | exact vrows (by omega) | exact vplace (by simp; done) (by omega) | exact vrow (by simp; done) (by omega) | exact vtiles (by simp) | exact vsplice (by simp) (by simp) | refine ceq ?_ ?_ | refine Eq.trans (vsplice (by first | (simp; done) | (simp; omega)) (by first | (simp; done) | (simp; omega))) ?_)), ?_⟩ | refine .inl ⟨_, _, rfl, Sat.of_eq (within64_sat n 0 1000) (by repeat (first | rfl | exact vfull (by first | (simp [splice]; done) | (simp [splice]; omega)) | exact rfull (by first | (simp [splice]; done) | (simp [splice]; omega)) | exact vdrow (by simp; done) (by omega) | exact vrows (by omega) | exact vplace (by simp; done) (by omega) | exact vrow (by simp; done) (by omega) | exact vtiles (by simp) | exact vsplice (by simp) (by simp) | refine ceq ?_ ?_ | refine Eq.trans (vsplice (by first | (simp; done) | (simp; omega)) (by first | (simp; done) | (simp; omega))) ?_)), ?_⟩
  conv => whnf
  repeat (first | (refine And.intro (by first | exact Nat.le_of_ble_eq_true rfl | exact rfl | decide | omega | (simp [splice]; done) | (constructor <;> omega) | (simp [splice]; omega)) ?_; conv => whnf) | (refine optK_of (raiA (by omega)) ?_; conv => whnf) | (refine optK_of (raiA' (by omega)) ?_; conv => whnf) | (refine optK_of (watA (by omega)) ?_; conv => whnf) | (refine optK_of (watA' (by omega)) ?_; conv => whnf) | (refine optK_of (dripA (by omega) (by omega)) ?_; conv => whnf) | (refine optK_of (roofN (by omega) (by omega)) ?_; conv => whnf) | (refine optK_of (gridN (by omega) (by omega)) ?_; conv => whnf) | (refine optK_of (intA (by omega)) ?_; conv => whnf) | (refine optK_of (intA' (by omega)) ?_; conv => whnf))
  first | refine ⟨rfl, _, rfl, ?_⟩ | refine ⟨_, rfl, ?_⟩
  rfl
theorem l02Ok_sat (r : Roof) (hr : r.In) (w : Nat → Int) (hw : RaiIn w) : Sat Try.prog 99 [.ref false (roofD r) 0, .ref false (raiD w) 0] (.v (.bool (okN r w))) := by
  refine sat_of_wp hMix tOk Try.func99 rfl rfl Try.ntmps99 rfl rfl Try.results99 (by kernel_rfl) ?_
  conv => whnf
  repeat (first | (refine And.intro (by first | exact Nat.le_of_ble_eq_true rfl | exact rfl | decide | omega | (simp [splice]; done) | (constructor <;> omega) | (simp [splice]; omega)) ?_; conv => whnf) | (refine optK_of (raiA (by omega)) ?_; conv => whnf) | (refine optK_of (raiA' (by omega)) ?_; conv => whnf) | (refine optK_of (watA (by omega)) ?_; conv => whnf) | (refine optK_of (watA' (by omega)) ?_; conv => whnf) | (refine optK_of (dripA (by omega) (by omega)) ?_; conv => whnf) | (refine optK_of (roofN (by omega) (by omega)) ?_; conv => whnf) | (refine optK_of (gridN (by omega) (by omega)) ?_; conv => whnf) | (refine optK_of (intA (by omega)) ?_; conv => whnf) | (refine optK_of (intA' (by omega)) ?_; conv => whnf))
  first | refine ⟨_, _, rfl, Sat.of_eq (l01Ok_sat r hr) (by repeat (first | rfl | exact vfull (by first | (simp [splice]; done) | (simp [splice]; omega)) | exact rfull (by first | (simp [splice]; done) | (simp [splice]; omega)) | exact vdrow (by simp; done) (by omega) | exact vrows (by omega) | exact vplace (by simp; done) (by omega) | exact vrow (by simp; done) (by omega) | exact vtiles (by simp) | exact vsplice (by simp) (by simp) | refine ceq ?_ ?_ | refine Eq.trans (vsplice (by first | (simp; done) | (simp; omega)) (by first | (simp; done) | (simp; omega))) ?_)), ?_⟩ | refine .inl ⟨_, _, rfl, Sat.of_eq (l01Ok_sat r hr) (by repeat (first | rfl | exact vfull (by first | (simp [splice]; done) | (simp [splice]; omega)) | exact rfull (by first | (simp [splice]; done) | (simp [splice]; omega)) | exact vdrow (by simp; done) (by omega) | exact vrows (by omega) | exact vplace (by simp; done) (by omega) | exact vrow (by simp; done) (by omega) | exact vtiles (by simp) | exact vsplice (by simp) (by simp) | refine ceq ?_ ?_ | refine Eq.trans (vsplice (by first | (simp; done) | (simp; omega)) (by first | (simp; done) | (simp; omega))) ?_)), ?_⟩
  conv => whnf
  repeat (first | (refine And.intro (by first | exact Nat.le_of_ble_eq_true rfl | exact rfl | decide | omega | (simp [splice]; done) | (constructor <;> omega) | (simp [splice]; omega)) ?_; conv => whnf) | (refine optK_of (raiA (by omega)) ?_; conv => whnf) | (refine optK_of (raiA' (by omega)) ?_; conv => whnf) | (refine optK_of (watA (by omega)) ?_; conv => whnf) | (refine optK_of (watA' (by omega)) ?_; conv => whnf) | (refine optK_of (dripA (by omega) (by omega)) ?_; conv => whnf) | (refine optK_of (roofN (by omega) (by omega)) ?_; conv => whnf) | (refine optK_of (gridN (by omega) (by omega)) ?_; conv => whnf) | (refine optK_of (intA (by omega)) ?_; conv => whnf) | (refine optK_of (intA' (by omega)) ?_; conv => whnf))
  cases hR : okR r
  · rw [show okN r w = false by unfold okN; rw [hR]; rfl]
    conv => whnf
    repeat (first | (refine And.intro (by first | exact Nat.le_of_ble_eq_true rfl | exact rfl | decide | omega | (simp [splice]; done) | (constructor <;> omega) | (simp [splice]; omega)) ?_; conv => whnf) | (refine optK_of (raiA (by omega)) ?_; conv => whnf) | (refine optK_of (raiA' (by omega)) ?_; conv => whnf) | (refine optK_of (watA (by omega)) ?_; conv => whnf) | (refine optK_of (watA' (by omega)) ?_; conv => whnf) | (refine optK_of (dripA (by omega) (by omega)) ?_; conv => whnf) | (refine optK_of (roofN (by omega) (by omega)) ?_; conv => whnf) | (refine optK_of (gridN (by omega) (by omega)) ?_; conv => whnf) | (refine optK_of (intA (by omega)) ?_; conv => whnf) | (refine optK_of (intA' (by omega)) ?_; conv => whnf))
    first | refine ⟨rfl, _, rfl, ?_⟩ | refine ⟨_, rfl, ?_⟩
    rfl
  have hb := okR_bounds hR
  conv => whnf
  repeat (first | (refine And.intro (by first | exact Nat.le_of_ble_eq_true rfl | exact rfl | decide | omega | (simp [splice]; done) | (constructor <;> omega) | (simp [splice]; omega)) ?_; conv => whnf) | (refine optK_of (raiA (by omega)) ?_; conv => whnf) | (refine optK_of (raiA' (by omega)) ?_; conv => whnf) | (refine optK_of (watA (by omega)) ?_; conv => whnf) | (refine optK_of (watA' (by omega)) ?_; conv => whnf) | (refine optK_of (dripA (by omega) (by omega)) ?_; conv => whnf) | (refine optK_of (roofN (by omega) (by omega)) ?_; conv => whnf) | (refine optK_of (gridN (by omega) (by omega)) ?_; conv => whnf) | (refine optK_of (intA (by omega)) ?_; conv => whnf) | (refine optK_of (intA' (by omega)) ?_; conv => whnf))
  refine loop_rule (α := Nat) (fun c => [(0, .ref false (roofD r) 0), (1, .ref false (raiD w) 0), (5, .v (.int .i64 c))]) (fun c => []) (fun c => c ≤ 17 ∧ ∀ j, j < c → rnB r w j = true) (fun c => 17 - c) (0) ?_ (sim_of (rn := []) rfl ?_ ?_) ?_
  · exact ⟨by omega, fun j hj => by omega⟩
  · ((repeat' (first | exact trivial | apply And.intro)) <;> (first | rfl | exact succ8 (by omega) | exact succ64 (by omega) | exact CapOk.fn (by assumption) _ _ | exact vintS (by omega) | exact vintS (by rw [w64 (by omega) (by omega)]; omega) | exact vintS (by rw [w8 (by omega) (by omega)]; omega) | exact vslcS (by omega) | exact vslcS (by simp)))
  · ((repeat' (first | exact trivial | apply And.intro)) <;> ((first | refine ⟨_, _, rfl, rfl, ?_⟩ ); rfl))
  rintro c ⟨hc, hall⟩
  conv => whnf
  repeat (first | (refine And.intro (by first | exact Nat.le_of_ble_eq_true rfl | exact rfl | decide | omega | (simp [splice]; done) | (constructor <;> omega) | (simp [splice]; omega)) ?_; conv => whnf) | (refine optK_of (raiA (by omega)) ?_; conv => whnf) | (refine optK_of (raiA' (by omega)) ?_; conv => whnf) | (refine optK_of (watA (by omega)) ?_; conv => whnf) | (refine optK_of (watA' (by omega)) ?_; conv => whnf) | (refine optK_of (dripA (by omega) (by omega)) ?_; conv => whnf) | (refine optK_of (roofN (by omega) (by omega)) ?_; conv => whnf) | (refine optK_of (gridN (by omega) (by omega)) ?_; conv => whnf) | (refine optK_of (intA (by omega)) ?_; conv => whnf) | (refine optK_of (intA' (by omega)) ?_; conv => whnf))
  cases h1 : decide ((c : Int) < 17)
  · have hc17 : c = 17 := by simp at h1; omega
    subst hc17
    rw [okN_yes hR hall]
    conv => whnf
    repeat (first | (refine And.intro (by first | exact Nat.le_of_ble_eq_true rfl | exact rfl | decide | omega | (simp [splice]; done) | (constructor <;> omega) | (simp [splice]; omega)) ?_; conv => whnf) | (refine optK_of (raiA (by omega)) ?_; conv => whnf) | (refine optK_of (raiA' (by omega)) ?_; conv => whnf) | (refine optK_of (watA (by omega)) ?_; conv => whnf) | (refine optK_of (watA' (by omega)) ?_; conv => whnf) | (refine optK_of (dripA (by omega) (by omega)) ?_; conv => whnf) | (refine optK_of (roofN (by omega) (by omega)) ?_; conv => whnf) | (refine optK_of (gridN (by omega) (by omega)) ?_; conv => whnf) | (refine optK_of (intA (by omega)) ?_; conv => whnf) | (refine optK_of (intA' (by omega)) ?_; conv => whnf))
    first | refine ⟨rfl, _, rfl, ?_⟩ | refine ⟨_, rfl, ?_⟩
    rfl
  have hc17 : c < 17 := by simp at h1; omega
  have hwc := hw.t c
  have hsp : rnB r w c = (deepB (w c) && !(decide ((c : Int) ≥ 2 * r.w + 1) && w c != 0)) := rfl
  have nxt : rnB r w c = true → c + 1 ≤ 17 ∧ ∀ j, j < c + 1 → rnB r w j = true := fun h => ⟨by omega, below_succ hall h⟩
  conv => whnf
  repeat (first | (refine And.intro (by first | exact Nat.le_of_ble_eq_true rfl | exact rfl | decide | omega | (simp [splice]; done) | (constructor <;> omega) | (simp [splice]; omega)) ?_; conv => whnf) | (refine optK_of (raiA (by omega)) ?_; conv => whnf) | (refine optK_of (raiA' (by omega)) ?_; conv => whnf) | (refine optK_of (watA (by omega)) ?_; conv => whnf) | (refine optK_of (watA' (by omega)) ?_; conv => whnf) | (refine optK_of (dripA (by omega) (by omega)) ?_; conv => whnf) | (refine optK_of (roofN (by omega) (by omega)) ?_; conv => whnf) | (refine optK_of (gridN (by omega) (by omega)) ?_; conv => whnf) | (refine optK_of (intA (by omega)) ?_; conv => whnf) | (refine optK_of (intA' (by omega)) ?_; conv => whnf))
  rw [show IntKind.i64.wrap (w c) = w c from w64 (by omega) (by omega)]
  first | refine ⟨_, _, rfl, Sat.of_eq (l02Amount_sat (w c)) (by repeat (first | rfl | exact vfull (by first | (simp [splice]; done) | (simp [splice]; omega)) | exact rfull (by first | (simp [splice]; done) | (simp [splice]; omega)) | exact vdrow (by simp; done) (by omega) | exact vrows (by omega) | exact vplace (by simp; done) (by omega) | exact vrow (by simp; done) (by omega) | exact vtiles (by simp) | exact vsplice (by simp) (by simp) | refine ceq ?_ ?_ | refine Eq.trans (vsplice (by first | (simp; done) | (simp; omega)) (by first | (simp; done) | (simp; omega))) ?_)), ?_⟩ | refine .inl ⟨_, _, rfl, Sat.of_eq (l02Amount_sat (w c)) (by repeat (first | rfl | exact vfull (by first | (simp [splice]; done) | (simp [splice]; omega)) | exact rfull (by first | (simp [splice]; done) | (simp [splice]; omega)) | exact vdrow (by simp; done) (by omega) | exact vrows (by omega) | exact vplace (by simp; done) (by omega) | exact vrow (by simp; done) (by omega) | exact vtiles (by simp) | exact vsplice (by simp) (by simp) | refine ceq ?_ ?_ | refine Eq.trans (vsplice (by first | (simp; done) | (simp; omega)) (by first | (simp; done) | (simp; omega))) ?_)), ?_⟩
  conv => whnf
  repeat (first | (refine And.intro (by first | exact Nat.le_of_ble_eq_true rfl | exact rfl | decide | omega | (simp [splice]; done) | (constructor <;> omega) | (simp [splice]; omega)) ?_; conv => whnf) | (refine optK_of (raiA (by omega)) ?_; conv => whnf) | (refine optK_of (raiA' (by omega)) ?_; conv => whnf) | (refine optK_of (watA (by omega)) ?_; conv => whnf) | (refine optK_of (watA' (by omega)) ?_; conv => whnf) | (refine optK_of (dripA (by omega) (by omega)) ?_; conv => whnf) | (refine optK_of (roofN (by omega) (by omega)) ?_; conv => whnf) | (refine optK_of (gridN (by omega) (by omega)) ?_; conv => whnf) | (refine optK_of (intA (by omega)) ?_; conv => whnf) | (refine optK_of (intA' (by omega)) ?_; conv => whnf))
  cases h2 : deepB (w c)
  · rw [okN_no hc17 (by rw [hsp, h2]; rfl)]
    conv => whnf
    repeat (first | (refine And.intro (by first | exact Nat.le_of_ble_eq_true rfl | exact rfl | decide | omega | (simp [splice]; done) | (constructor <;> omega) | (simp [splice]; omega)) ?_; conv => whnf) | (refine optK_of (raiA (by omega)) ?_; conv => whnf) | (refine optK_of (raiA' (by omega)) ?_; conv => whnf) | (refine optK_of (watA (by omega)) ?_; conv => whnf) | (refine optK_of (watA' (by omega)) ?_; conv => whnf) | (refine optK_of (dripA (by omega) (by omega)) ?_; conv => whnf) | (refine optK_of (roofN (by omega) (by omega)) ?_; conv => whnf) | (refine optK_of (gridN (by omega) (by omega)) ?_; conv => whnf) | (refine optK_of (intA (by omega)) ?_; conv => whnf) | (refine optK_of (intA' (by omega)) ?_; conv => whnf))
    first | refine ⟨rfl, _, rfl, ?_⟩ | refine ⟨_, rfl, ?_⟩
    rfl
  conv => whnf
  repeat (first | (refine And.intro (by first | exact Nat.le_of_ble_eq_true rfl | exact rfl | decide | omega | (simp [splice]; done) | (constructor <;> omega) | (simp [splice]; omega)) ?_; conv => whnf) | (refine optK_of (raiA (by omega)) ?_; conv => whnf) | (refine optK_of (raiA' (by omega)) ?_; conv => whnf) | (refine optK_of (watA (by omega)) ?_; conv => whnf) | (refine optK_of (watA' (by omega)) ?_; conv => whnf) | (refine optK_of (dripA (by omega) (by omega)) ?_; conv => whnf) | (refine optK_of (roofN (by omega) (by omega)) ?_; conv => whnf) | (refine optK_of (gridN (by omega) (by omega)) ?_; conv => whnf) | (refine optK_of (intA (by omega)) ?_; conv => whnf) | (refine optK_of (intA' (by omega)) ?_; conv => whnf))
  first | refine ⟨_, _, rfl, Sat.of_eq (l01Cells_sat r hr hb) (by repeat (first | rfl | exact vfull (by first | (simp [splice]; done) | (simp [splice]; omega)) | exact rfull (by first | (simp [splice]; done) | (simp [splice]; omega)) | exact vdrow (by simp; done) (by omega) | exact vrows (by omega) | exact vplace (by simp; done) (by omega) | exact vrow (by simp; done) (by omega) | exact vtiles (by simp) | exact vsplice (by simp) (by simp) | refine ceq ?_ ?_ | refine Eq.trans (vsplice (by first | (simp; done) | (simp; omega)) (by first | (simp; done) | (simp; omega))) ?_)), ?_⟩ | refine .inl ⟨_, _, rfl, Sat.of_eq (l01Cells_sat r hr hb) (by repeat (first | rfl | exact vfull (by first | (simp [splice]; done) | (simp [splice]; omega)) | exact rfull (by first | (simp [splice]; done) | (simp [splice]; omega)) | exact vdrow (by simp; done) (by omega) | exact vrows (by omega) | exact vplace (by simp; done) (by omega) | exact vrow (by simp; done) (by omega) | exact vtiles (by simp) | exact vsplice (by simp) (by simp) | refine ceq ?_ ?_ | refine Eq.trans (vsplice (by first | (simp; done) | (simp; omega)) (by first | (simp; done) | (simp; omega))) ?_)), ?_⟩
  conv => whnf
  repeat (first | (refine And.intro (by first | exact Nat.le_of_ble_eq_true rfl | exact rfl | decide | omega | (simp [splice]; done) | (constructor <;> omega) | (simp [splice]; omega)) ?_; conv => whnf) | (refine optK_of (raiA (by omega)) ?_; conv => whnf) | (refine optK_of (raiA' (by omega)) ?_; conv => whnf) | (refine optK_of (watA (by omega)) ?_; conv => whnf) | (refine optK_of (watA' (by omega)) ?_; conv => whnf) | (refine optK_of (dripA (by omega) (by omega)) ?_; conv => whnf) | (refine optK_of (roofN (by omega) (by omega)) ?_; conv => whnf) | (refine optK_of (gridN (by omega) (by omega)) ?_; conv => whnf) | (refine optK_of (intA (by omega)) ?_; conv => whnf) | (refine optK_of (intA' (by omega)) ?_; conv => whnf))
  cases h3 : decide ((c : Int) ≥ 2 * r.w + 1)
  · conv => whnf
    repeat (first | (refine And.intro (by first | exact Nat.le_of_ble_eq_true rfl | exact rfl | decide | omega | (simp [splice]; done) | (constructor <;> omega) | (simp [splice]; omega)) ?_; conv => whnf) | (refine optK_of (raiA (by omega)) ?_; conv => whnf) | (refine optK_of (raiA' (by omega)) ?_; conv => whnf) | (refine optK_of (watA (by omega)) ?_; conv => whnf) | (refine optK_of (watA' (by omega)) ?_; conv => whnf) | (refine optK_of (dripA (by omega) (by omega)) ?_; conv => whnf) | (refine optK_of (roofN (by omega) (by omega)) ?_; conv => whnf) | (refine optK_of (gridN (by omega) (by omega)) ?_; conv => whnf) | (refine optK_of (intA (by omega)) ?_; conv => whnf) | (refine optK_of (intA' (by omega)) ?_; conv => whnf))
    refine ⟨c + 1, ?_, ?_, sim_of (rn := []) rfl ?_ ?_⟩
    · (dsimp only; omega)
    · exact nxt (by rw [hsp, h2, h3]; rfl)
    · ((repeat' (first | exact trivial | apply And.intro)) <;> (first | rfl | exact succ8 (by omega) | exact succ64 (by omega) | exact CapOk.fn (by assumption) _ _ | exact vintS (by omega) | exact vintS (by rw [w64 (by omega) (by omega)]; omega) | exact vintS (by rw [w8 (by omega) (by omega)]; omega) | exact vslcS (by omega) | exact vslcS (by simp)))
    · ((repeat' (first | exact trivial | apply And.intro)) <;> ((first | refine ⟨_, _, rfl, rfl, ?_⟩ ); rfl))
  conv => whnf
  repeat (first | (refine And.intro (by first | exact Nat.le_of_ble_eq_true rfl | exact rfl | decide | omega | (simp [splice]; done) | (constructor <;> omega) | (simp [splice]; omega)) ?_; conv => whnf) | (refine optK_of (raiA (by omega)) ?_; conv => whnf) | (refine optK_of (raiA' (by omega)) ?_; conv => whnf) | (refine optK_of (watA (by omega)) ?_; conv => whnf) | (refine optK_of (watA' (by omega)) ?_; conv => whnf) | (refine optK_of (dripA (by omega) (by omega)) ?_; conv => whnf) | (refine optK_of (roofN (by omega) (by omega)) ?_; conv => whnf) | (refine optK_of (gridN (by omega) (by omega)) ?_; conv => whnf) | (refine optK_of (intA (by omega)) ?_; conv => whnf) | (refine optK_of (intA' (by omega)) ?_; conv => whnf))
  cases h4 : (w c != 0)
  · conv => whnf
    repeat (first | (refine And.intro (by first | exact Nat.le_of_ble_eq_true rfl | exact rfl | decide | omega | (simp [splice]; done) | (constructor <;> omega) | (simp [splice]; omega)) ?_; conv => whnf) | (refine optK_of (raiA (by omega)) ?_; conv => whnf) | (refine optK_of (raiA' (by omega)) ?_; conv => whnf) | (refine optK_of (watA (by omega)) ?_; conv => whnf) | (refine optK_of (watA' (by omega)) ?_; conv => whnf) | (refine optK_of (dripA (by omega) (by omega)) ?_; conv => whnf) | (refine optK_of (roofN (by omega) (by omega)) ?_; conv => whnf) | (refine optK_of (gridN (by omega) (by omega)) ?_; conv => whnf) | (refine optK_of (intA (by omega)) ?_; conv => whnf) | (refine optK_of (intA' (by omega)) ?_; conv => whnf))
    refine ⟨c + 1, ?_, ?_, sim_of (rn := []) rfl ?_ ?_⟩
    · (dsimp only; omega)
    · exact nxt (by rw [hsp, h2, h3, h4]; rfl)
    · ((repeat' (first | exact trivial | apply And.intro)) <;> (first | rfl | exact succ8 (by omega) | exact succ64 (by omega) | exact CapOk.fn (by assumption) _ _ | exact vintS (by omega) | exact vintS (by rw [w64 (by omega) (by omega)]; omega) | exact vintS (by rw [w8 (by omega) (by omega)]; omega) | exact vslcS (by omega) | exact vslcS (by simp)))
    · ((repeat' (first | exact trivial | apply And.intro)) <;> ((first | refine ⟨_, _, rfl, rfl, ?_⟩ ); rfl))
  rw [okN_no hc17 (by rw [hsp, h2, h3, h4]; rfl)]
  conv => whnf
  repeat (first | (refine And.intro (by first | exact Nat.le_of_ble_eq_true rfl | exact rfl | decide | omega | (simp [splice]; done) | (constructor <;> omega) | (simp [splice]; omega)) ?_; conv => whnf) | (refine optK_of (raiA (by omega)) ?_; conv => whnf) | (refine optK_of (raiA' (by omega)) ?_; conv => whnf) | (refine optK_of (watA (by omega)) ?_; conv => whnf) | (refine optK_of (watA' (by omega)) ?_; conv => whnf) | (refine optK_of (dripA (by omega) (by omega)) ?_; conv => whnf) | (refine optK_of (roofN (by omega) (by omega)) ?_; conv => whnf) | (refine optK_of (gridN (by omega) (by omega)) ?_; conv => whnf) | (refine optK_of (intA (by omega)) ?_; conv => whnf) | (refine optK_of (intA' (by omega)) ?_; conv => whnf))
  first | refine ⟨rfl, _, rfl, ?_⟩ | refine ⟨_, rfl, ?_⟩
  rfl
theorem validRain_sat (r : Roof) (hr : r.In) (w : Nat → Int) (hw : RaiIn w) : Sat Try.prog 108 [roofD r, raiD w] (.v (.bool (okN r w))) := by
  refine sat_of_wp hMix tOk Try.func108 rfl rfl Try.ntmps108 rfl rfl Try.results108 (by kernel_rfl) ?_
  conv => whnf
  repeat (first | (refine And.intro (by first | exact Nat.le_of_ble_eq_true rfl | exact rfl | decide | omega | (simp [splice]; done) | (constructor <;> omega) | (simp [splice]; omega)) ?_; conv => whnf) | (refine optK_of (raiA (by omega)) ?_; conv => whnf) | (refine optK_of (raiA' (by omega)) ?_; conv => whnf) | (refine optK_of (watA (by omega)) ?_; conv => whnf) | (refine optK_of (watA' (by omega)) ?_; conv => whnf) | (refine optK_of (dripA (by omega) (by omega)) ?_; conv => whnf) | (refine optK_of (roofN (by omega) (by omega)) ?_; conv => whnf) | (refine optK_of (gridN (by omega) (by omega)) ?_; conv => whnf) | (refine optK_of (intA (by omega)) ?_; conv => whnf) | (refine optK_of (intA' (by omega)) ?_; conv => whnf))
  first | refine ⟨_, _, rfl, Sat.of_eq (validRoof_sat r hr) (by repeat (first | rfl | exact vfull (by first | (simp [splice]; done) | (simp [splice]; omega)) | exact rfull (by first | (simp [splice]; done) | (simp [splice]; omega)) | exact vdrow (by simp; done) (by omega) | exact vrows (by omega) | exact vplace (by simp; done) (by omega) | exact vrow (by simp; done) (by omega) | exact vtiles (by simp) | exact vsplice (by simp) (by simp) | refine ceq ?_ ?_ | refine Eq.trans (vsplice (by first | (simp; done) | (simp; omega)) (by first | (simp; done) | (simp; omega))) ?_)), ?_⟩ | refine .inl ⟨_, _, rfl, Sat.of_eq (validRoof_sat r hr) (by repeat (first | rfl | exact vfull (by first | (simp [splice]; done) | (simp [splice]; omega)) | exact rfull (by first | (simp [splice]; done) | (simp [splice]; omega)) | exact vdrow (by simp; done) (by omega) | exact vrows (by omega) | exact vplace (by simp; done) (by omega) | exact vrow (by simp; done) (by omega) | exact vtiles (by simp) | exact vsplice (by simp) (by simp) | refine ceq ?_ ?_ | refine Eq.trans (vsplice (by first | (simp; done) | (simp; omega)) (by first | (simp; done) | (simp; omega))) ?_)), ?_⟩
  conv => whnf
  repeat (first | (refine And.intro (by first | exact Nat.le_of_ble_eq_true rfl | exact rfl | decide | omega | (simp [splice]; done) | (constructor <;> omega) | (simp [splice]; omega)) ?_; conv => whnf) | (refine optK_of (raiA (by omega)) ?_; conv => whnf) | (refine optK_of (raiA' (by omega)) ?_; conv => whnf) | (refine optK_of (watA (by omega)) ?_; conv => whnf) | (refine optK_of (watA' (by omega)) ?_; conv => whnf) | (refine optK_of (dripA (by omega) (by omega)) ?_; conv => whnf) | (refine optK_of (roofN (by omega) (by omega)) ?_; conv => whnf) | (refine optK_of (gridN (by omega) (by omega)) ?_; conv => whnf) | (refine optK_of (intA (by omega)) ?_; conv => whnf) | (refine optK_of (intA' (by omega)) ?_; conv => whnf))
  cases hR : okR r
  · rw [show okN r w = false by unfold okN; rw [hR]; rfl]
    conv => whnf
    repeat (first | (refine And.intro (by first | exact Nat.le_of_ble_eq_true rfl | exact rfl | decide | omega | (simp [splice]; done) | (constructor <;> omega) | (simp [splice]; omega)) ?_; conv => whnf) | (refine optK_of (raiA (by omega)) ?_; conv => whnf) | (refine optK_of (raiA' (by omega)) ?_; conv => whnf) | (refine optK_of (watA (by omega)) ?_; conv => whnf) | (refine optK_of (watA' (by omega)) ?_; conv => whnf) | (refine optK_of (dripA (by omega) (by omega)) ?_; conv => whnf) | (refine optK_of (roofN (by omega) (by omega)) ?_; conv => whnf) | (refine optK_of (gridN (by omega) (by omega)) ?_; conv => whnf) | (refine optK_of (intA (by omega)) ?_; conv => whnf) | (refine optK_of (intA' (by omega)) ?_; conv => whnf))
    first | refine ⟨rfl, _, rfl, ?_⟩ | refine ⟨_, rfl, ?_⟩
    rfl
  have hb := okR_bounds hR
  conv => whnf
  repeat (first | (refine And.intro (by first | exact Nat.le_of_ble_eq_true rfl | exact rfl | decide | omega | (simp [splice]; done) | (constructor <;> omega) | (simp [splice]; omega)) ?_; conv => whnf) | (refine optK_of (raiA (by omega)) ?_; conv => whnf) | (refine optK_of (raiA' (by omega)) ?_; conv => whnf) | (refine optK_of (watA (by omega)) ?_; conv => whnf) | (refine optK_of (watA' (by omega)) ?_; conv => whnf) | (refine optK_of (dripA (by omega) (by omega)) ?_; conv => whnf) | (refine optK_of (roofN (by omega) (by omega)) ?_; conv => whnf) | (refine optK_of (gridN (by omega) (by omega)) ?_; conv => whnf) | (refine optK_of (intA (by omega)) ?_; conv => whnf) | (refine optK_of (intA' (by omega)) ?_; conv => whnf))
  refine loop_rule (α := Nat) (fun c => [(2, .ptr (2, 0, 0) 0), (10, .v (.agg ⟨raiC w⟩)), (11, .v (.int .i64 c))]) (fun c => [((2, 0, 0), roofD r)]) (fun c => c ≤ 17 ∧ ∀ j, j < c → rnB r w j = true) (fun c => 17 - c) (0) ?_ (sim_of (rn := [((2, 0, 0), (2, 0, 0))]) rfl ?_ ?_) ?_
  · exact ⟨by omega, fun j hj => by omega⟩
  · ((repeat' (first | exact trivial | apply And.intro)) <;> (first | rfl | (first | exact cset (take_drop0 (by simp)).symm | exact cset (take_drop0 (by simp))) | exact succ8 (by omega) | exact succ64 (by omega) | exact CapOk.fn (by assumption) _ _ | exact vintS (by omega) | exact vintS (by rw [w64 (by omega) (by omega)]; omega) | exact vintS (by rw [w8 (by omega) (by omega)]; omega) | exact vslcS (by omega) | exact vslcS (by simp)))
  · ((repeat' (first | exact trivial | apply And.intro)) <;> ((first | refine ⟨_, _, rfl, rfl, ?_⟩ ); rfl))
  rintro c ⟨hc, hall⟩
  conv => whnf
  repeat (first | (refine And.intro (by first | exact Nat.le_of_ble_eq_true rfl | exact rfl | decide | omega | (simp [splice]; done) | (constructor <;> omega) | (simp [splice]; omega)) ?_; conv => whnf) | (refine optK_of (raiA (by omega)) ?_; conv => whnf) | (refine optK_of (raiA' (by omega)) ?_; conv => whnf) | (refine optK_of (watA (by omega)) ?_; conv => whnf) | (refine optK_of (watA' (by omega)) ?_; conv => whnf) | (refine optK_of (dripA (by omega) (by omega)) ?_; conv => whnf) | (refine optK_of (roofN (by omega) (by omega)) ?_; conv => whnf) | (refine optK_of (gridN (by omega) (by omega)) ?_; conv => whnf) | (refine optK_of (intA (by omega)) ?_; conv => whnf) | (refine optK_of (intA' (by omega)) ?_; conv => whnf))
  cases h1 : decide ((c : Int) < 17)
  · have hc17 : c = 17 := by simp at h1; omega
    subst hc17
    rw [okN_yes hR hall]
    conv => whnf
    repeat (first | (refine And.intro (by first | exact Nat.le_of_ble_eq_true rfl | exact rfl | decide | omega | (simp [splice]; done) | (constructor <;> omega) | (simp [splice]; omega)) ?_; conv => whnf) | (refine optK_of (raiA (by omega)) ?_; conv => whnf) | (refine optK_of (raiA' (by omega)) ?_; conv => whnf) | (refine optK_of (watA (by omega)) ?_; conv => whnf) | (refine optK_of (watA' (by omega)) ?_; conv => whnf) | (refine optK_of (dripA (by omega) (by omega)) ?_; conv => whnf) | (refine optK_of (roofN (by omega) (by omega)) ?_; conv => whnf) | (refine optK_of (gridN (by omega) (by omega)) ?_; conv => whnf) | (refine optK_of (intA (by omega)) ?_; conv => whnf) | (refine optK_of (intA' (by omega)) ?_; conv => whnf))
    first | refine ⟨rfl, _, rfl, ?_⟩ | refine ⟨_, rfl, ?_⟩
    rfl
  have hc17 : c < 17 := by simp at h1; omega
  have hwc := hw.t c
  have hsp : rnB r w c = (deepB (w c) && !(decide ((c : Int) ≥ 2 * r.w + 1) && w c != 0)) := rfl
  have nxt : rnB r w c = true → c + 1 ≤ 17 ∧ ∀ j, j < c + 1 → rnB r w j = true := fun h => ⟨by omega, below_succ hall h⟩
  conv => whnf
  repeat (first | (refine And.intro (by first | exact Nat.le_of_ble_eq_true rfl | exact rfl | decide | omega | (simp [splice]; done) | (constructor <;> omega) | (simp [splice]; omega)) ?_; conv => whnf) | (refine optK_of (raiA (by omega)) ?_; conv => whnf) | (refine optK_of (raiA' (by omega)) ?_; conv => whnf) | (refine optK_of (watA (by omega)) ?_; conv => whnf) | (refine optK_of (watA' (by omega)) ?_; conv => whnf) | (refine optK_of (dripA (by omega) (by omega)) ?_; conv => whnf) | (refine optK_of (roofN (by omega) (by omega)) ?_; conv => whnf) | (refine optK_of (gridN (by omega) (by omega)) ?_; conv => whnf) | (refine optK_of (intA (by omega)) ?_; conv => whnf) | (refine optK_of (intA' (by omega)) ?_; conv => whnf))
  first | refine ⟨_, _, rfl, Sat.of_eq (isAmount16_sat (w c) hwc) (by repeat (first | rfl | exact vfull (by first | (simp [splice]; done) | (simp [splice]; omega)) | exact rfull (by first | (simp [splice]; done) | (simp [splice]; omega)) | exact vdrow (by simp; done) (by omega) | exact vrows (by omega) | exact vplace (by simp; done) (by omega) | exact vrow (by simp; done) (by omega) | exact vtiles (by simp) | exact vsplice (by simp) (by simp) | refine ceq ?_ ?_ | refine Eq.trans (vsplice (by first | (simp; done) | (simp; omega)) (by first | (simp; done) | (simp; omega))) ?_)), ?_⟩ | refine .inl ⟨_, _, rfl, Sat.of_eq (isAmount16_sat (w c) hwc) (by repeat (first | rfl | exact vfull (by first | (simp [splice]; done) | (simp [splice]; omega)) | exact rfull (by first | (simp [splice]; done) | (simp [splice]; omega)) | exact vdrow (by simp; done) (by omega) | exact vrows (by omega) | exact vplace (by simp; done) (by omega) | exact vrow (by simp; done) (by omega) | exact vtiles (by simp) | exact vsplice (by simp) (by simp) | refine ceq ?_ ?_ | refine Eq.trans (vsplice (by first | (simp; done) | (simp; omega)) (by first | (simp; done) | (simp; omega))) ?_)), ?_⟩
  conv => whnf
  repeat (first | (refine And.intro (by first | exact Nat.le_of_ble_eq_true rfl | exact rfl | decide | omega | (simp [splice]; done) | (constructor <;> omega) | (simp [splice]; omega)) ?_; conv => whnf) | (refine optK_of (raiA (by omega)) ?_; conv => whnf) | (refine optK_of (raiA' (by omega)) ?_; conv => whnf) | (refine optK_of (watA (by omega)) ?_; conv => whnf) | (refine optK_of (watA' (by omega)) ?_; conv => whnf) | (refine optK_of (dripA (by omega) (by omega)) ?_; conv => whnf) | (refine optK_of (roofN (by omega) (by omega)) ?_; conv => whnf) | (refine optK_of (gridN (by omega) (by omega)) ?_; conv => whnf) | (refine optK_of (intA (by omega)) ?_; conv => whnf) | (refine optK_of (intA' (by omega)) ?_; conv => whnf))
  cases h2 : deepB (w c)
  · rw [okN_no hc17 (by rw [hsp, h2]; rfl)]
    conv => whnf
    repeat (first | (refine And.intro (by first | exact Nat.le_of_ble_eq_true rfl | exact rfl | decide | omega | (simp [splice]; done) | (constructor <;> omega) | (simp [splice]; omega)) ?_; conv => whnf) | (refine optK_of (raiA (by omega)) ?_; conv => whnf) | (refine optK_of (raiA' (by omega)) ?_; conv => whnf) | (refine optK_of (watA (by omega)) ?_; conv => whnf) | (refine optK_of (watA' (by omega)) ?_; conv => whnf) | (refine optK_of (dripA (by omega) (by omega)) ?_; conv => whnf) | (refine optK_of (roofN (by omega) (by omega)) ?_; conv => whnf) | (refine optK_of (gridN (by omega) (by omega)) ?_; conv => whnf) | (refine optK_of (intA (by omega)) ?_; conv => whnf) | (refine optK_of (intA' (by omega)) ?_; conv => whnf))
    first | refine ⟨rfl, _, rfl, ?_⟩ | refine ⟨_, rfl, ?_⟩
    rfl
  conv => whnf
  repeat (first | (refine And.intro (by first | exact Nat.le_of_ble_eq_true rfl | exact rfl | decide | omega | (simp [splice]; done) | (constructor <;> omega) | (simp [splice]; omega)) ?_; conv => whnf) | (refine optK_of (raiA (by omega)) ?_; conv => whnf) | (refine optK_of (raiA' (by omega)) ?_; conv => whnf) | (refine optK_of (watA (by omega)) ?_; conv => whnf) | (refine optK_of (watA' (by omega)) ?_; conv => whnf) | (refine optK_of (dripA (by omega) (by omega)) ?_; conv => whnf) | (refine optK_of (roofN (by omega) (by omega)) ?_; conv => whnf) | (refine optK_of (gridN (by omega) (by omega)) ?_; conv => whnf) | (refine optK_of (intA (by omega)) ?_; conv => whnf) | (refine optK_of (intA' (by omega)) ?_; conv => whnf))
  cases h4 : (w c != 0)
  · conv => whnf
    repeat (first | (refine And.intro (by first | exact Nat.le_of_ble_eq_true rfl | exact rfl | decide | omega | (simp [splice]; done) | (constructor <;> omega) | (simp [splice]; omega)) ?_; conv => whnf) | (refine optK_of (raiA (by omega)) ?_; conv => whnf) | (refine optK_of (raiA' (by omega)) ?_; conv => whnf) | (refine optK_of (watA (by omega)) ?_; conv => whnf) | (refine optK_of (watA' (by omega)) ?_; conv => whnf) | (refine optK_of (dripA (by omega) (by omega)) ?_; conv => whnf) | (refine optK_of (roofN (by omega) (by omega)) ?_; conv => whnf) | (refine optK_of (gridN (by omega) (by omega)) ?_; conv => whnf) | (refine optK_of (intA (by omega)) ?_; conv => whnf) | (refine optK_of (intA' (by omega)) ?_; conv => whnf))
    refine ⟨c + 1, ?_, ?_, sim_of (rn := [((2, 0, 0), (2, 0, 0))]) rfl ?_ ?_⟩
    · (dsimp only; omega)
    · exact nxt (by rw [hsp, h2, h4, Bool.and_false]; rfl)
    · ((repeat' (first | exact trivial | apply And.intro)) <;> (first | rfl | exact succ8 (by omega) | exact succ64 (by omega) | exact CapOk.fn (by assumption) _ _ | exact vintS (by omega) | exact vintS (by rw [w64 (by omega) (by omega)]; omega) | exact vintS (by rw [w8 (by omega) (by omega)]; omega) | exact vslcS (by omega) | exact vslcS (by simp)))
    · ((repeat' (first | exact trivial | apply And.intro)) <;> ((first | refine ⟨_, _, rfl, rfl, ?_⟩ ); rfl))
  conv => whnf
  repeat (first | (refine And.intro (by first | exact Nat.le_of_ble_eq_true rfl | exact rfl | decide | omega | (simp [splice]; done) | (constructor <;> omega) | (simp [splice]; omega)) ?_; conv => whnf) | (refine optK_of (raiA (by omega)) ?_; conv => whnf) | (refine optK_of (raiA' (by omega)) ?_; conv => whnf) | (refine optK_of (watA (by omega)) ?_; conv => whnf) | (refine optK_of (watA' (by omega)) ?_; conv => whnf) | (refine optK_of (dripA (by omega) (by omega)) ?_; conv => whnf) | (refine optK_of (roofN (by omega) (by omega)) ?_; conv => whnf) | (refine optK_of (gridN (by omega) (by omega)) ?_; conv => whnf) | (refine optK_of (intA (by omega)) ?_; conv => whnf) | (refine optK_of (intA' (by omega)) ?_; conv => whnf))
  first | refine ⟨_, _, rfl, Sat.of_eq (cells_sat r hr hb) (by repeat (first | rfl | exact vfull (by first | (simp [splice]; done) | (simp [splice]; omega)) | exact rfull (by first | (simp [splice]; done) | (simp [splice]; omega)) | exact vdrow (by simp; done) (by omega) | exact vrows (by omega) | exact vplace (by simp; done) (by omega) | exact vrow (by simp; done) (by omega) | exact vtiles (by simp) | exact vsplice (by simp) (by simp) | refine ceq ?_ ?_ | refine Eq.trans (vsplice (by first | (simp; done) | (simp; omega)) (by first | (simp; done) | (simp; omega))) ?_)), ?_⟩ | refine .inl ⟨_, _, rfl, Sat.of_eq (cells_sat r hr hb) (by repeat (first | rfl | exact vfull (by first | (simp [splice]; done) | (simp [splice]; omega)) | exact rfull (by first | (simp [splice]; done) | (simp [splice]; omega)) | exact vdrow (by simp; done) (by omega) | exact vrows (by omega) | exact vplace (by simp; done) (by omega) | exact vrow (by simp; done) (by omega) | exact vtiles (by simp) | exact vsplice (by simp) (by simp) | refine ceq ?_ ?_ | refine Eq.trans (vsplice (by first | (simp; done) | (simp; omega)) (by first | (simp; done) | (simp; omega))) ?_)), ?_⟩
  conv => whnf
  repeat (first | (refine And.intro (by first | exact Nat.le_of_ble_eq_true rfl | exact rfl | decide | omega | (simp [splice]; done) | (constructor <;> omega) | (simp [splice]; omega)) ?_; conv => whnf) | (refine optK_of (raiA (by omega)) ?_; conv => whnf) | (refine optK_of (raiA' (by omega)) ?_; conv => whnf) | (refine optK_of (watA (by omega)) ?_; conv => whnf) | (refine optK_of (watA' (by omega)) ?_; conv => whnf) | (refine optK_of (dripA (by omega) (by omega)) ?_; conv => whnf) | (refine optK_of (roofN (by omega) (by omega)) ?_; conv => whnf) | (refine optK_of (gridN (by omega) (by omega)) ?_; conv => whnf) | (refine optK_of (intA (by omega)) ?_; conv => whnf) | (refine optK_of (intA' (by omega)) ?_; conv => whnf))
  cases h3 : decide ((c : Int) ≥ 2 * r.w + 1)
  · conv => whnf
    repeat (first | (refine And.intro (by first | exact Nat.le_of_ble_eq_true rfl | exact rfl | decide | omega | (simp [splice]; done) | (constructor <;> omega) | (simp [splice]; omega)) ?_; conv => whnf) | (refine optK_of (raiA (by omega)) ?_; conv => whnf) | (refine optK_of (raiA' (by omega)) ?_; conv => whnf) | (refine optK_of (watA (by omega)) ?_; conv => whnf) | (refine optK_of (watA' (by omega)) ?_; conv => whnf) | (refine optK_of (dripA (by omega) (by omega)) ?_; conv => whnf) | (refine optK_of (roofN (by omega) (by omega)) ?_; conv => whnf) | (refine optK_of (gridN (by omega) (by omega)) ?_; conv => whnf) | (refine optK_of (intA (by omega)) ?_; conv => whnf) | (refine optK_of (intA' (by omega)) ?_; conv => whnf))
    refine ⟨c + 1, ?_, ?_, sim_of (rn := [((2, 0, 0), (2, 0, 0))]) rfl ?_ ?_⟩
    · (dsimp only; omega)
    · exact nxt (by rw [hsp, h2, h3]; rfl)
    · ((repeat' (first | exact trivial | apply And.intro)) <;> (first | rfl | exact succ8 (by omega) | exact succ64 (by omega) | exact CapOk.fn (by assumption) _ _ | exact vintS (by omega) | exact vintS (by rw [w64 (by omega) (by omega)]; omega) | exact vintS (by rw [w8 (by omega) (by omega)]; omega) | exact vslcS (by omega) | exact vslcS (by simp)))
    · ((repeat' (first | exact trivial | apply And.intro)) <;> ((first | refine ⟨_, _, rfl, rfl, ?_⟩ ); rfl))
  rw [okN_no hc17 (by rw [hsp, h2, h3, h4]; rfl)]
  conv => whnf
  repeat (first | (refine And.intro (by first | exact Nat.le_of_ble_eq_true rfl | exact rfl | decide | omega | (simp [splice]; done) | (constructor <;> omega) | (simp [splice]; omega)) ?_; conv => whnf) | (refine optK_of (raiA (by omega)) ?_; conv => whnf) | (refine optK_of (raiA' (by omega)) ?_; conv => whnf) | (refine optK_of (watA (by omega)) ?_; conv => whnf) | (refine optK_of (watA' (by omega)) ?_; conv => whnf) | (refine optK_of (dripA (by omega) (by omega)) ?_; conv => whnf) | (refine optK_of (roofN (by omega) (by omega)) ?_; conv => whnf) | (refine optK_of (gridN (by omega) (by omega)) ?_; conv => whnf) | (refine optK_of (intA (by omega)) ?_; conv => whnf) | (refine optK_of (intA' (by omega)) ?_; conv => whnf))
  first | refine ⟨rfl, _, rfl, ?_⟩ | refine ⟨_, rfl, ?_⟩
  rfl
end Go.Proofs.Ytndlknhakdadjaa
/- Contracts: how much drips in all and how much a whole tile saves, both sides. -/
set_option linter.unusedVariables false
set_option linter.unusedSimpArgs false
namespace Go.V
abbrev W1 (w : Nat → Int) : Prop := ∀ c, c < 17 → 0 ≤ w c ∧ w c ≤ 1000
abbrev Rb (r : Roof) : Prop := (1 ≤ r.w ∧ r.w ≤ 8) ∧ (1 ≤ r.h ∧ r.h ≤ 8) ∧ r.s ≤ 1
theorem vfnR {f : Fn} {r : Roof} : D.fn f [.v (.agg ⟨((roofC r).drop 0).take 67⟩)] [] = D.fn f [roofD r] [] := by
  rw [take_drop0 (by simp)]; rfl
end Go.V
namespace Go.Proofs.Ytndlknhakdadjaa
open Go.V
end Go.Proofs.Ytndlknhakdadjaa
/- Contracts: the tile that is best made whole; tiles that are made whole until no more than so much drips; the law. -/
set_option linter.unusedVariables false
set_option linter.unusedSimpArgs false
namespace Go.V
end Go.V
namespace Go.Proofs.Ytndlknhakdadjaa
open Go.V
end Go.Proofs.Ytndlknhakdadjaa
/- Contracts: tiles that are made whole until no more than so much drips, both sides, and the law. -/
set_option linter.unusedVariables false
set_option linter.unusedSimpArgs false
namespace Go.V
end Go.V
namespace Go.Proofs.Ytndlknhakdadjaa
open Go.V
theorem toRain_sat (w : Nat → Int) : Sat Try.prog 40 [raiD w] (raiD w) := by
  refine sat_of_wp hMix tOk Try.func40 rfl rfl Try.ntmps40 rfl rfl Try.results40 (by kernel_rfl) ?_
  conv => whnf
  repeat (first | (refine And.intro (by first | exact Nat.le_of_ble_eq_true rfl | exact rfl | decide | omega | (simp [splice]; done) | (constructor <;> omega) | (simp [splice]; omega)) ?_; conv => whnf) | (refine optK_of (raiA (by omega)) ?_; conv => whnf) | (refine optK_of (raiA' (by omega)) ?_; conv => whnf) | (refine optK_of (roofN (by omega) (by omega)) ?_; conv => whnf) | (refine optK_of (gridN (by omega) (by omega)) ?_; conv => whnf) | (refine optK_of (placeA (by omega)) ?_; conv => whnf) | (refine optK_of (placeB (by omega)) ?_; conv => whnf) | (refine optK_of (placeA' (by omega)) ?_; conv => whnf) | (refine optK_of (placeB' (by omega)) ?_; conv => whnf))
  refine loop_rule (α := Nat) (fun k => [(1, .ptr (1, 0, 0) 0), (2, .ptr (2, 0, 0) 0), (3, .ptr (3, 0, 0) 0), (4, .v (.int .i64 k))]) (fun k => [((1, 0, 0), raiD w), ((2, 0, 0), .v (.agg ⟨List.replicate 17 (.int .i16 0)⟩)), ((3, 0, 0), .v (.agg ⟨raiC (mix w (fun _ => 0) k)⟩))]) (fun k => k ≤ 17) (fun k => 17 - k) (0) ?_ (sim_of (rn := [((1, 0, 0), (1, 0, 0)), ((2, 0, 0), (2, 0, 0)), ((3, 0, 0), (3, 0, 0))]) rfl ?_ ?_) ?_
  · first | omega | (dsimp only; omega) | ((repeat' apply And.intro) <;> omega) | (dsimp only; (repeat' apply And.intro) <;> omega) | trivial
  · ((repeat' (first | exact trivial | apply And.intro)) <;> (first | rfl | exact succ8 (by omega) | exact succ64 (by omega) | exact CapOk.fn (by assumption) _ _ | exact vintS (by omega) | exact vintS (by rw [w64 (by omega) (by omega)]; omega) | exact vintS (by rw [w8 (by omega) (by omega)]; omega) | exact vslcS (by omega) | exact vslcS (by simp)))
  · ((repeat' (first | exact trivial | apply And.intro)) <;> ((first | refine ⟨_, _, rfl, rfl, ?_⟩ ); first | rfl | (exact cset (by rw [mix_zero, raiC_zero]))))
  intro k hk
  conv => whnf
  repeat (first | (refine And.intro (by first | exact Nat.le_of_ble_eq_true rfl | exact rfl | decide | omega | (simp [splice]; done) | (constructor <;> omega) | (simp [splice]; omega)) ?_; conv => whnf) | (refine optK_of (raiA (by omega)) ?_; conv => whnf) | (refine optK_of (raiA' (by omega)) ?_; conv => whnf) | (refine optK_of (roofN (by omega) (by omega)) ?_; conv => whnf) | (refine optK_of (gridN (by omega) (by omega)) ?_; conv => whnf) | (refine optK_of (placeA (by omega)) ?_; conv => whnf) | (refine optK_of (placeB (by omega)) ?_; conv => whnf) | (refine optK_of (placeA' (by omega)) ?_; conv => whnf) | (refine optK_of (placeB' (by omega)) ?_; conv => whnf))
  cases h1 : decide ((k : Int) < 17)
  · have hk17 : k = 17 := by simp at h1; omega
    subst hk17
    rw [show raiC (mix w (fun _ => 0) 17) = raiC w from raiC_congr fun i hi => by simp [mix, hi]]
    conv => whnf
    repeat (first | (refine And.intro (by first | exact Nat.le_of_ble_eq_true rfl | exact rfl | decide | omega | (simp [splice]; done) | (constructor <;> omega) | (simp [splice]; omega)) ?_; conv => whnf) | (refine optK_of (raiA (by omega)) ?_; conv => whnf) | (refine optK_of (raiA' (by omega)) ?_; conv => whnf) | (refine optK_of (roofN (by omega) (by omega)) ?_; conv => whnf) | (refine optK_of (gridN (by omega) (by omega)) ?_; conv => whnf) | (refine optK_of (placeA (by omega)) ?_; conv => whnf) | (refine optK_of (placeB (by omega)) ?_; conv => whnf) | (refine optK_of (placeA' (by omega)) ?_; conv => whnf) | (refine optK_of (placeB' (by omega)) ?_; conv => whnf))
    first | refine ⟨rfl, _, rfl, ?_⟩ | refine ⟨_, rfl, ?_⟩
    skip
    exact congrArg (fun l => D.v (.agg ⟨l⟩)) (copied (n := 17) (by simp) (by simp)).symm
  have hk17 : k < 17 := by simp at h1; omega
  conv => whnf
  repeat (first | (refine And.intro (by first | exact Nat.le_of_ble_eq_true rfl | exact rfl | decide | omega | (simp [splice]; done) | (constructor <;> omega) | (simp [splice]; omega)) ?_; conv => whnf) | (refine optK_of (raiA (by omega)) ?_; conv => whnf) | (refine optK_of (raiA' (by omega)) ?_; conv => whnf) | (refine optK_of (roofN (by omega) (by omega)) ?_; conv => whnf) | (refine optK_of (gridN (by omega) (by omega)) ?_; conv => whnf) | (refine optK_of (placeA (by omega)) ?_; conv => whnf) | (refine optK_of (placeB (by omega)) ?_; conv => whnf) | (refine optK_of (placeA' (by omega)) ?_; conv => whnf) | (refine optK_of (placeB' (by omega)) ?_; conv => whnf))
  have setA : (raiC (mix w (fun _ => 0) k)).set (0 + (k : Int).toNat * 1) (.int .i16 (w k)) = raiC (mix w (fun _ => 0) (k + 1)) := by
    rw [show 0 + (k : Int).toNat * 1 = k by omega, rai_set rfl, mix_put]
  refine ⟨k + 1, ?_, ?_, sim_of (rn := [((1, 0, 0), (1, 0, 0)), ((2, 0, 0), (2, 0, 0)), ((3, 0, 0), (3, 0, 0))]) rfl ?_ ?_⟩
  · (dsimp only; omega)
  · first | omega | (dsimp only; omega) | ((repeat' apply And.intro) <;> omega) | (dsimp only; (repeat' apply And.intro) <;> omega) | trivial
  · ((repeat' (first | exact trivial | apply And.intro)) <;> (first | rfl | exact succ8 (by omega) | exact succ64 (by omega) | exact CapOk.fn (by assumption) _ _ | exact vintS (by omega) | exact vintS (by rw [w64 (by omega) (by omega)]; omega) | exact vintS (by rw [w8 (by omega) (by omega)]; omega) | exact vslcS (by omega) | exact vslcS (by simp)))
  · ((repeat' (first | exact trivial | apply And.intro)) <;> ((first | refine ⟨_, _, rfl, rfl, ?_⟩ ); first | rfl | (exact cset setA)))
end Go.Proofs.Ytndlknhakdadjaa
/- Plain words: lists of things of a fixed number of cells; lists of roofs. -/
set_option linter.unusedVariables false
set_option linter.unusedSimpArgs false
namespace Go.V
section
variable {α : Type} {f : α → List Value} {n : Nat}
theorem fm_len (hf : ∀ x, (f x).length = n) : ∀ l : List α, (l.flatMap f).length = l.length * n
  | [] => by simp
  | x :: l => by rw [List.flatMap_cons, List.length_append, hf, fm_len hf l, List.length_cons, Nat.succ_mul]; omega
theorem fm_sub {d : α} (hf : ∀ x, (f x).length = n) : ∀ {l : List α} {i : Nat}, i < l.length → ((l.flatMap f).drop (i * n)).take n = f (l.getD i d)
  | [], i, h => by simp at h
  | x :: l, 0, h => by
    rw [List.flatMap_cons, Nat.zero_mul, List.drop_zero, List.take_left' (hf x)]; rfl
  | x :: l, i + 1, h => by
    have : (i + 1) * n = (f x).length + i * n := by rw [hf, Nat.succ_mul]; omega
    rw [List.flatMap_cons, this, ← List.drop_drop, List.drop_left' rfl, fm_sub hf (d := d) (by simpa using h)]
    simp
theorem fm_take (hf : ∀ x, (f x).length = n) : ∀ (l : List α) (i : Nat), (l.flatMap f).take (i * n) = (l.take i).flatMap f
  | [], i => by simp
  | x :: l, 0 => by simp
  | x :: l, i + 1 => by
    have : (i + 1) * n = (f x).length + i * n := by rw [hf, Nat.succ_mul]; omega
    rw [List.flatMap_cons, this, List.take_length_add_append, fm_take hf l i, List.take_succ_cons, List.flatMap_cons]
theorem fm_drop (hf : ∀ x, (f x).length = n) : ∀ (l : List α) (i : Nat), (l.flatMap f).drop (i * n) = (l.drop i).flatMap f
  | [], i => by simp
  | x :: l, 0 => by simp
  | x :: l, i + 1 => by
    have : (i + 1) * n = (f x).length + i * n := by rw [hf, Nat.succ_mul]; omega
    rw [List.flatMap_cons, this, List.drop_length_add_append, fm_drop hf l i, List.drop_succ_cons]
theorem fm_splice {x : α} (hf : ∀ x, (f x).length = n) {l : List α} {i : Nat} (h : i < l.length) : splice (l.flatMap f) (i * n) (f x) = (l.set i x).flatMap f := by
  unfold splice
  rw [hf, fm_take hf, show i * n + n = (i + 1) * n by rw [Nat.succ_mul], fm_drop hf, List.set_eq_take_append_cons_drop, if_pos h, List.flatMap_append, List.flatMap_cons, List.append_assoc]
end
theorem take_getD {α : Type} {l : List α} {d : α} {i : Nat} (h : i < l.length) : l.take (i + 1) = l.take i ++ [l.getD i d] := by
  rw [List.take_add_one, List.getD_eq_getElem?_getD]
  simp [h]
/-- A list of which the first i are of one list, the others of another one. -/
def cpX {α : Type} (l z : List α) (i : Nat) : List α := l.take i ++ z.drop i
theorem cpX_len {α : Type} {l z : List α} {i : Nat} (hz : z.length = l.length) (h : i ≤ l.length) : (cpX l z i).length = l.length := by simp [cpX]; omega
theorem cpX_zero {α : Type} (l z : List α) : cpX l z 0 = z := by simp [cpX]
theorem cpX_all {α : Type} {l z : List α} (hz : z.length = l.length) : cpX l z l.length = l := by simp [cpX, List.drop_of_length_le (Nat.le_of_eq hz)]
theorem cpX_next {α : Type} {l z : List α} {d : α} {i : Nat} (hz : z.length = l.length) (h : i < l.length) : (cpX l z i).set i (l.getD i d) = cpX l z (i + 1) := by
  unfold cpX
  have hl : (l.take i).length = i := by simp; omega
  rw [take_getD (d := d) h, List.set_append_right _ _ (by omega), hl, Nat.sub_self, List.append_assoc]
  congr 1
  have : i < z.length := by omega
  rw [List.drop_eq_getElem_cons this, List.set_cons_zero]; rfl
/-- Lists of roofs. -/
def rx (rs : List Roof) (i : Nat) : Roof := rs.getD i zeroR
@[irreducible] def roofsC (rs : List Roof) : List Value := rs.flatMap roofC
theorem roofsC_def (rs : List Roof) : roofsC rs = rs.flatMap roofC := by unfold roofsC; rfl
@[simp] theorem roofsC_len (rs : List Roof) : (roofsC rs).length = rs.length * 67 := by rw [roofsC_def, fm_len roofC_len]
def roofsD (m : Bool) (rs : List Roof) : D := .row m 67 (.v (.agg ⟨roofsC rs⟩)) rs.length
theorem roofs_sub {rs : List Roof} {i o : Nat} (ho : o = i * 67) (h : i < rs.length) : ((roofsC rs).drop o).take 67 = roofC (rx rs i) := by
  subst ho; rw [roofsC_def]; exact fm_sub (d := zeroR) roofC_len h
theorem vroofs {rs : List Roof} {i o : Nat} (ho : o = i * 67) (h : i < rs.length) : D.v (.agg ⟨((roofsC rs).drop o).take 67⟩) = roofD (rx rs i) := by rw [roofs_sub ho h]; rfl
theorem roofs_put {rs : List Roof} {x : Roof} {i o : Nat} (ho : o = i * 67) (h : i < rs.length) : splice (roofsC rs) o (roofC x) = roofsC (rs.set i x) := by
  subst ho; rw [roofsC_def, roofsC_def]; exact fm_splice roofC_len h
theorem nth_drop {α : Type} : ∀ {l : List α} {o n : Nat}, nth (l.drop o) n = nth l (o + n)
  | l, o, n => by rw [nth_eq, nth_eq, List.getElem?_drop]
theorem nth_take {α : Type} {l : List α} {k n : Nat} (h : n < k) : nth (l.take k) n = nth l n := by
  rw [nth_eq, nth_eq, List.getElem?_take, if_pos h]
theorem roofs_at {rs : List Roof} {i j o : Nat} (ho : o = i * 67 + j) (h : i < rs.length) (hj : j < 67) : nth (roofsC rs) o = nth (roofC (rx rs i)) j := by
  subst ho
  rw [← roofs_sub rfl h, nth_take hj, nth_drop]
theorem roofsW {rs : List Roof} {i : Nat} (h : i < rs.length) : nth (roofsC rs) ((i : Int).toNat * 67 + 0) = some (.int .i8 (rx rs i).w) := by rw [roofs_at (i := i) (j := 0) (by simp) h (by omega)]; rfl
theorem roofsH {rs : List Roof} {i : Nat} (h : i < rs.length) : nth (roofsC rs) ((i : Int).toNat * 67 + 1) = some (.int .i8 (rx rs i).h) := by rw [roofs_at (i := i) (j := 1) (by simp) h (by omega)]; rfl
theorem roofsS {rs : List Roof} {i : Nat} (h : i < rs.length) : nth (roofsC rs) ((i : Int).toNat * 67 + 2) = some (.int .u8 (rx rs i).s) := by rw [roofs_at (i := i) (j := 2) (by simp) h (by omega)]; rfl
theorem roofs_set {rs : List Roof} {i j o : Nat} {v : Value} {x : Roof} (ho : o = i * 67 + j) (h : i < rs.length) (hj : j < 67) (hx : (roofC (rx rs i)).set j v = roofC x) : (roofsC rs).set o v = roofsC (rs.set i x) := by
  subst ho
  rw [← roofs_put rfl h, ← hx, ← roofs_sub rfl h]
  unfold splice
  have hl : i * 67 + 67 ≤ (roofsC rs).length := by
    rw [roofsC_len]
    have : (i + 1) * 67 ≤ rs.length * 67 := Nat.mul_le_mul_right _ h
    omega
  generalize roofsC rs = L at *
  apply List.ext_getElem?
  intro k
  rw [List.getElem?_set, List.getElem?_append, List.length_append]
  simp only [List.length_set, List.length_take, List.length_drop]
  rw [show min (i * 67) L.length = i * 67 by omega, show min 67 (L.length - i * 67) = 67 by omega]
  by_cases h1 : k < i * 67
  · rw [if_neg (by omega), if_pos (by omega), List.getElem?_append_left (by simp; omega), List.getElem?_take, if_pos h1]
  · by_cases h2 : k < i * 67 + 67
    · rw [if_pos (show k < i * 67 + 67 by omega), List.getElem?_append_right (by simp; omega)]
      simp only [List.length_take]
      rw [show min (i * 67) L.length = i * 67 by omega, List.getElem?_set]
      by_cases h3 : i * 67 + j = k
      · subst h3
        rw [if_pos rfl, if_pos (by omega), if_pos (by omega)]
        simp [show 67 ≤ L.length - i * 67 by omega, hj]
      · rw [if_neg h3, if_neg (by omega), List.getElem?_take, if_pos (by omega), List.getElem?_drop, show i * 67 + (k - i * 67) = k by omega]
    · rw [if_neg (by omega), if_neg (by omega), List.getElem?_drop, show i * 67 + 67 + (k - (i * 67 + 67)) = k by omega]
/-- What a pointer into a list of cells leads to, told as cells of its own. -/
theorem Rep.refSub {w : World} {base : Nat} {loc : Loc} {m : Bool} {xs ys : List Value} {off n : Nat} {y : Value} (h : Rep w base loc (.ref m (.v (.agg ⟨xs⟩)) off) y) (hn : (xs.drop off).take n = ys) (hl : ys.length = n) (hpos : 0 < n) :
    Rep w base loc (.ref m (.v (.agg ⟨ys⟩)) 0) y := by
  simp only [Rep] at h ⊢
  obtain ⟨b, o, zs, rfl, hat, hav, hm, hz, hfl⟩ := h
  cases hz
  refine ⟨b, o + off, ys, rfl, ?_, hav, hm, rfl, ?_⟩
  · obtain ⟨k, e, fr, h1, h2, h3⟩ := hat
    have hle : off + n ≤ xs.length := by
      have := congrArg List.length hn
      simp at this
      omega
    refine ⟨k, e, fr, h1, by omega, ?_⟩
    have : ((k.toList.drop o).take xs.length).drop off = xs.drop off := by rw [h3]
    rw [hl, ← hn, ← this, List.drop_take, List.take_take, List.drop_drop, show min n (xs.length - off) = n by omega]
  · simp only [Flat, List.all_eq_true] at hfl ⊢
    intro x hx
    rw [← hn] at hx
    exact hfl x (List.mem_of_mem_drop (List.mem_of_mem_take hx))
theorem Sat.sub {P : Program} {g : FuncId} {m : Bool} {xs ys : List Value} {off n : Nat} {rest : List D} {res : D} (h : Sat P g (.ref m (.v (.agg ⟨ys⟩)) 0 :: rest) res) (hn : (xs.drop off).take n = ys) (hl : ys.length = n) (hpos : 0 < n) :
    Sat P g (.ref m (.v (.agg ⟨xs⟩)) off :: rest) res := by
  refine ⟨h.1, fun w vs hr => h.2 w vs ?_⟩
  simp only [RepL] at hr ⊢
  obtain ⟨y, yss, rfl, h1, h2⟩ := hr
  exact ⟨y, yss, rfl, h1.refSub hn hl hpos, h2⟩
end Go.V
