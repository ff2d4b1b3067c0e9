import Derived.Test.YtndlknhakdadjaaP1
import Derived.Test.YtndlknhakdadjaaP2
set_option linter.unusedVariables false
set_option linter.unusedSimpArgs false
/- Contracts: rain that runs down a roof, both sides. -/
set_option linter.unusedVariables false
set_option linter.unusedSimpArgs false
namespace Go.Proofs.Ytndlknhakdadjaa
open Go.V
theorem region11 {id : Nat} {t1 t2 t3 t4 t5 t6 t7 t8 : TypeId} {p1 p2 p3 p4 p5 p6 p7 p8 : String} {a1 a2 a3 a4 a5 a6 a7 a8 : Array Edge} {Q : Ex → St → Prop} {s : St} {f : Nat → Nat → Int} {x : D} {i k : Int}
    (h5 : s.t 5 = .ptr (5, 0, 0) 0) (h8 : s.t 8 = .v (.int .i64 i)) (h9 : s.t 9 = .v (.int .i64 k)) (hm : s.m (5, 0, 0) = some (.agg (dripL f ++ [x, .mp])))
    (hQ : Q .normal (((((((s.set 38 (.ptr (5, 0, 0) (0 + 137))).set 39 .mp).set 40 (.v (.int .i64 i))).set 41 (.v (.int .i8 (IntKind.i8.wrap i)))).set 42 (.v (.int .i64 k))).set 43 (.v (.int .i8 (IntKind.i8.wrap k)))).set 44 (.v (.agg ⟨[.int .i8 (IntKind.i8.wrap i), .int .i8 (IntKind.i8.wrap k)]⟩)))) :
    wp Try.prog tt (Code.region id #[⟨some 38, .fieldAddr 201 (.tmp 5) 2, t1, p1, a1, none⟩, ⟨some 39, .load 199 (.tmp 38), t2, p2, a2, none⟩, ⟨some 40, .move (.tmp 8), t3, p3, a3, none⟩, ⟨some 41, .convert 3 22 (.tmp 40), t4, p4, a4, none⟩,
      ⟨some 42, .move (.tmp 9), t5, p5, a5, none⟩, ⟨some 43, .convert 3 22 (.tmp 42), t6, p6, a6, none⟩, ⟨some 44, .build 109 #[(0, .tmp 41), (1, .tmp 43)], t7, p7, a7, none⟩, ⟨none, .mapUpdate 199 (.tmp 39) (.tmp 44) (.const (.bool true)), t8, p8, a8, none⟩] false) Q s := by
  have e5 : s.ev (.tmp 5) = .ptr (5, 0, 0) 0 := h5
  conv => whnf
  rw [e5]
  conv => whnf
  have em : (s.set 38 (.ptr (5, 0, 0) (0 + 137))).m (5, 0, 0) = some (.agg (dripL f ++ [x, .mp])) := hm
  first | rw [em] | rw [hm] | trace_state
  conv => whnf
  refine optK_of flowM ?_
  conv => whnf
  have e8 : ((s.set 38 (.ptr (5, 0, 0) (0 + 137))).set 39 .mp).ev (.tmp 8) = .v (.int .i64 i) := h8
  rw [e8]
  conv => whnf
  have e9 : ((((s.set 38 (.ptr (5, 0, 0) (0 + 137))).set 39 .mp).set 40 (.v (.int .i64 i))).set 41 (.v (.int .i8 (IntKind.i8.wrap i)))).ev (.tmp 9) = .v (.int .i64 k) := h9
  rw [e9]
  conv => whnf
  exact ⟨mapOkP, hQ⟩
set_option maxRecDepth 20000 in
theorem run_sat (r : Roof) (hr : r.In) (hb : (1 ≤ r.w ∧ r.w ≤ 8) ∧ (1 ≤ r.h ∧ r.h ≤ 8) ∧ r.s ≤ 1) (w : Nat → Int) (hw : ∀ c, c < 17 → 0 ≤ w c ∧ w c ≤ 1000) :
    Sat Try.prog 156 [roofD r, raiD w] (.agg (dripL (dR r w) ++ [intsD true (gtL r w (2 * r.w + 1).toNat), .junk])) := by
  have eh : IntKind.i64.wrap r.h = r.h := w64 (by omega) (by omega)
  have ez : dripC (fun _ _ => 0) = List.replicate 136 (.int .i32 0) := dripC_zero
  have e5 : dripL (ptR (dR r w) 0 0) = (List.replicate 136 (.int .i32 0)).map D.v := by unfold dripL; rw [ptR_zero, ez]
  refine sat_of_wp hMix tOk Try.func156 rfl rfl Try.ntmps156 rfl rfl Try.results156 (by kernel_rfl) ?_
  conv => whnf
  repeat (first | (refine And.intro (by first | exact Nat.le_of_ble_eq_true rfl | exact mapOkP | exact rfl | decide | omega | (simp [splice]; done) | (constructor <;> omega) | (simp [splice]; omega)) ?_; conv => whnf) | (refine optK_of (raiA (by omega)) ?_; conv => whnf) | (refine optK_of (raiA' (by omega)) ?_; conv => whnf) | (refine optK_of (dripA (by omega) (by omega)) ?_; conv => whnf) | (refine optK_of (roofN (by omega) (by omega)) ?_; conv => whnf) | (refine optK_of (gridN (by omega) (by omega)) ?_; conv => whnf) | (refine optK_of (flowG) ?_; conv => whnf) | (refine optK_of (flowM) ?_; conv => whnf) | (refine optK_of (intA (by omega)) ?_; conv => whnf) | (refine optK_of (intA' (by omega)) ?_; conv => whnf))
  first | refine ⟨_, _, rfl, Sat.of_eq (cells_sat r hr hb) (by repeat (first | rfl | exact vfull (by first | (simp [splice]; done) | (simp [splice]; omega)) | exact rfull (by first | (simp [splice]; done) | (simp [splice]; omega)) | exact vplace (by simp; done) (by omega) | exact vrow (by simp; done) (by omega) | exact vtiles (by simp) | exact vsplice (by simp) (by simp) | refine ceq ?_ ?_ | refine Eq.trans (vsplice (by first | (simp; done) | (simp; omega)) (by first | (simp; done) | (simp; omega))) ?_)), ?_⟩ | refine .inl ⟨_, _, rfl, Sat.of_eq (cells_sat r hr hb) (by repeat (first | rfl | exact vfull (by first | (simp [splice]; done) | (simp [splice]; omega)) | exact rfull (by first | (simp [splice]; done) | (simp [splice]; omega)) | exact vplace (by simp; done) (by omega) | exact vrow (by simp; done) (by omega) | exact vtiles (by simp) | exact vsplice (by simp) (by simp) | refine ceq ?_ ?_ | refine Eq.trans (vsplice (by first | (simp; done) | (simp; omega)) (by first | (simp; done) | (simp; omega))) ?_)), ?_⟩
  conv => whnf
  repeat (first | (refine And.intro (by first | exact Nat.le_of_ble_eq_true rfl | exact mapOkP | exact rfl | decide | omega | (simp [splice]; done) | (constructor <;> omega) | (simp [splice]; omega)) ?_; conv => whnf) | (refine optK_of (raiA (by omega)) ?_; conv => whnf) | (refine optK_of (raiA' (by omega)) ?_; conv => whnf) | (refine optK_of (dripA (by omega) (by omega)) ?_; conv => whnf) | (refine optK_of (roofN (by omega) (by omega)) ?_; conv => whnf) | (refine optK_of (gridN (by omega) (by omega)) ?_; conv => whnf) | (refine optK_of (flowG) ?_; conv => whnf) | (refine optK_of (flowM) ?_; conv => whnf) | (refine optK_of (intA (by omega)) ?_; conv => whnf) | (refine optK_of (intA' (by omega)) ?_; conv => whnf))
  refine loop_rule (α := Nat) (fun c => [(2, .ptr (2, 0, 0) 0), (3, .ptr (3, 0, 0) 0), (4, .ptr (4, 0, 0) 0), (5, .ptr (5, 0, 0) 0), (14, .v (.int .i64 (2 * r.w + 1))), (15, .v (.int .i64 c))]) (fun c => [((2, 0, 0), roofD r), ((3, 0, 0), raiD w), ((4, 0, 0), .v (.agg ⟨List.replicate 136 (.int .i32 0) ++ [.slice none 0 0] ++ [.map none]⟩)), ((5, 0, 0), .agg (dripL (ptR (dR r w) c 0) ++ [.slc true 1 (71, 0, 0) 0 c, .mp])), ((71, 0, 0), .v (.agg ⟨intsC (gtL r w c)⟩))]) (fun c => c ≤ (2 * r.w + 1).toNat) (fun c => (2 * r.w + 1).toNat - c) (0) ?_ (sim_of (rn := [((2, 0, 0), (2, 0, 0)), ((3, 0, 0), (3, 0, 0)), ((4, 0, 0), (4, 0, 0)), ((5, 0, 0), (5, 0, 0)), ((71, 0, 0), nilId)]) rfl ?_ ?_) ?_
  · first | omega | (dsimp only; omega) | ((repeat' apply And.intro) <;> omega) | (dsimp only; (repeat' apply And.intro) <;> omega) | trivial
  · ((repeat' (first | exact trivial | apply And.intro)) <;> (first | rfl | exact succ8 (by omega) | exact succ64 (by omega) | exact CapOk.fn (by assumption) _ _ | exact vintS (by omega) | exact vintS (by rw [w64 (by omega) (by omega)]; omega) | exact vintS (by rw [w8 (by omega) (by omega)]; omega) | exact vslcS (by omega) | exact vslcS (by simp)))
  · ((repeat' (first | exact trivial | apply And.intro)) <;> ((first | refine ⟨_, _, rfl, rfl, ?_⟩ | refine ⟨_, _, rfl, renFlow rfl rfl, ?_⟩); first | (first | exact cset intsC_nil.symm | (rw [e5]; rfl)) | rfl))
  intro c hc
  have z0 : ∀ i c, (2 * r.w + 1).toNat ≤ c → dR r w i c = 0 := fun i c h => by unfold dR; rw [if_neg (by unfold onR; omega)]
  conv => whnf
  repeat (first | (refine And.intro (by first | exact Nat.le_of_ble_eq_true rfl | exact mapOkP | exact rfl | decide | omega | (simp [splice]; done) | (constructor <;> omega) | (simp [splice]; omega)) ?_; conv => whnf) | (refine optK_of (raiA (by omega)) ?_; conv => whnf) | (refine optK_of (raiA' (by omega)) ?_; conv => whnf) | (refine optK_of (dripA (by omega) (by omega)) ?_; conv => whnf) | (refine optK_of (roofN (by omega) (by omega)) ?_; conv => whnf) | (refine optK_of (gridN (by omega) (by omega)) ?_; conv => whnf) | (refine optK_of (flowG) ?_; conv => whnf) | (refine optK_of (flowM) ?_; conv => whnf) | (refine optK_of (intA (by omega)) ?_; conv => whnf) | (refine optK_of (intA' (by omega)) ?_; conv => whnf))
  cases h1 : decide ((c : Int) < 2 * r.w + 1)
  · have hcn : c = (2 * r.w + 1).toNat := by simp at h1; omega
    subst hcn
    rw [ptR_all z0]
    conv => whnf
    repeat (first | (refine And.intro (by first | exact Nat.le_of_ble_eq_true rfl | exact mapOkP | exact rfl | decide | omega | (simp [splice]; done) | (constructor <;> omega) | (simp [splice]; omega)) ?_; conv => whnf) | (refine optK_of (raiA (by omega)) ?_; conv => whnf) | (refine optK_of (raiA' (by omega)) ?_; conv => whnf) | (refine optK_of (dripA (by omega) (by omega)) ?_; conv => whnf) | (refine optK_of (roofN (by omega) (by omega)) ?_; conv => whnf) | (refine optK_of (gridN (by omega) (by omega)) ?_; conv => whnf) | (refine optK_of (flowG) ?_; conv => whnf) | (refine optK_of (flowM) ?_; conv => whnf) | (refine optK_of (intA (by omega)) ?_; conv => whnf) | (refine optK_of (intA' (by omega)) ?_; conv => whnf))
    rw [ti201_size, end138 (by simp) (by simp)]
    refine ⟨_, expFlow rfl rfl, ?_⟩
    have e1 : List.take ((2 * r.w + 1).toNat * 1) (List.drop 0 (intsC (gtL r w (2 * r.w + 1).toNat))) = intsC (gtL r w (2 * r.w + 1).toNat) := by rw [List.drop_zero, take_full (by simp)]
    refine Eq.trans (b := D.agg (dripL (dR r w) ++ [.row true 1 (.v (.agg ⟨List.take ((2 * r.w + 1).toNat * 1) (List.drop 0 (intsC (gtL r w (2 * r.w + 1).toNat)))⟩)) (2 * r.w + 1).toNat, .junk])) ?_ rfl
    rw [e1]
    unfold intsD
    rw [gtL_len]
  have hcn : (c : Int) < 2 * r.w + 1 := by simpa using h1
  have hwc := hw c (by omega)
  conv => whnf
  repeat (first | (refine And.intro (by first | exact Nat.le_of_ble_eq_true rfl | exact mapOkP | exact rfl | decide | omega | (simp [splice]; done) | (constructor <;> omega) | (simp [splice]; omega)) ?_; conv => whnf) | (refine optK_of (raiA (by omega)) ?_; conv => whnf) | (refine optK_of (raiA' (by omega)) ?_; conv => whnf) | (refine optK_of (dripA (by omega) (by omega)) ?_; conv => whnf) | (refine optK_of (roofN (by omega) (by omega)) ?_; conv => whnf) | (refine optK_of (gridN (by omega) (by omega)) ?_; conv => whnf) | (refine optK_of (flowG) ?_; conv => whnf) | (refine optK_of (flowM) ?_; conv => whnf) | (refine optK_of (intA (by omega)) ?_; conv => whnf) | (refine optK_of (intA' (by omega)) ?_; conv => whnf))
  rw [show IntKind.i32.wrap (w c) = w c from w32 (by omega) (by omega), eh]
  refine loop_rule (α := Nat) (fun i => [(2, .ptr (2, 0, 0) 0), (3, .ptr (3, 0, 0) 0), (4, .ptr (4, 0, 0) 0), (5, .ptr (5, 0, 0) 0), (6, .v (.int .i64 c)), (7, .v (.int .i32 (wtI r w c i))), (14, .v (.int .i64 (2 * r.w + 1))), (15, .v (.int .i64 c)), (24, .v (.int .i64 r.h)), (25, .v (.int .i64 i))]) (fun i => [((2, 0, 0), roofD r), ((3, 0, 0), raiD w), ((4, 0, 0), .v (.agg ⟨List.replicate 136 (.int .i32 0) ++ [.slice none 0 0] ++ [.map none]⟩)), ((5, 0, 0), .agg (dripL (ptR (dR r w) c i) ++ [.slc true 1 (71, 0, 0) 0 c, .mp])), ((71, 0, 0), .v (.agg ⟨intsC (gtL r w c)⟩))]) (fun i => i ≤ r.h.toNat) (fun i => r.h.toNat - i) (0) ?_ (sim_of (rn := [((2, 0, 0), (2, 0, 0)), ((3, 0, 0), (3, 0, 0)), ((4, 0, 0), (4, 0, 0)), ((5, 0, 0), (5, 0, 0)), ((71, 0, 0), (71, 0, 0))]) rfl ?_ ?_) ?_
  · first | omega | (dsimp only; omega) | ((repeat' apply And.intro) <;> omega) | (dsimp only; (repeat' apply And.intro) <;> omega) | trivial
  · ((repeat' (first | exact trivial | apply And.intro)) <;> (first | rfl | exact succ8 (by omega) | exact succ64 (by omega) | exact CapOk.fn (by assumption) _ _ | exact vintS (by omega) | exact vintS (by rw [w64 (by omega) (by omega)]; omega) | exact vintS (by rw [w8 (by omega) (by omega)]; omega) | exact vslcS (by omega) | exact vslcS (by simp)))
  · ((repeat' (first | exact trivial | apply And.intro)) <;> ((first | refine ⟨_, _, rfl, rfl, ?_⟩ | refine ⟨_, _, rfl, renFlow rfl rfl, ?_⟩); rfl))
  intro i hi
  have hwi := wtI_in r (w := w) (c := c) hwc i
  have hdi := drI_in r i c hwi.1
  conv => whnf
  repeat (first | (refine And.intro (by first | exact Nat.le_of_ble_eq_true rfl | exact mapOkP | exact rfl | decide | omega | (simp [splice]; done) | (constructor <;> omega) | (simp [splice]; omega)) ?_; conv => whnf) | (refine optK_of (raiA (by omega)) ?_; conv => whnf) | (refine optK_of (raiA' (by omega)) ?_; conv => whnf) | (refine optK_of (dripA (by omega) (by omega)) ?_; conv => whnf) | (refine optK_of (roofN (by omega) (by omega)) ?_; conv => whnf) | (refine optK_of (gridN (by omega) (by omega)) ?_; conv => whnf) | (refine optK_of (flowG) ?_; conv => whnf) | (refine optK_of (flowM) ?_; conv => whnf) | (refine optK_of (intA (by omega)) ?_; conv => whnf) | (refine optK_of (intA' (by omega)) ?_; conv => whnf))
  cases h2 : decide ((i : Int) < r.h)
  · have hih : i = r.h.toNat := by simp at h2; omega
    subst hih
    have e2 : intsC (gtL r w c) ++ [.int .i64 (wtI r w c r.h.toNat)] = intsC (gtL r w (c + 1)) := by rw [gtL_next, intsC_append, intsC_one]
    have c0 : ptR (dR r w) c r.h.toNat = ptR (dR r w) (c + 1) 0 := ptR_col fun i hi => by unfold dR; rw [if_neg (by unfold onR; omega)]
    have e64 : IntKind.i64.wrap (wtI r w c r.h.toNat) = wtI r w c r.h.toNat := w64 (by omega) (by omega)
    rw [c0]
    conv => whnf
    repeat (first | (refine And.intro (by first | exact Nat.le_of_ble_eq_true rfl | exact mapOkP | exact rfl | decide | omega | (simp [splice]; done) | (constructor <;> omega) | (simp [splice]; omega)) ?_; conv => whnf) | (refine optK_of (raiA (by omega)) ?_; conv => whnf) | (refine optK_of (raiA' (by omega)) ?_; conv => whnf) | (refine optK_of (dripA (by omega) (by omega)) ?_; conv => whnf) | (refine optK_of (roofN (by omega) (by omega)) ?_; conv => whnf) | (refine optK_of (gridN (by omega) (by omega)) ?_; conv => whnf) | (refine optK_of (flowG) ?_; conv => whnf) | (refine optK_of (flowM) ?_; conv => whnf) | (refine optK_of (intA (by omega)) ?_; conv => whnf) | (refine optK_of (intA' (by omega)) ?_; conv => whnf))
    refine ⟨c + 1, ?_, ?_, sim_of (rn := [((2, 0, 0), (2, 0, 0)), ((3, 0, 0), (3, 0, 0)), ((4, 0, 0), (4, 0, 0)), ((5, 0, 0), (5, 0, 0)), ((71, 0, 0), (71, 1, 0))]) rfl ?_ ?_⟩
    · (dsimp only; omega)
    · first | omega | (dsimp only; omega) | ((repeat' apply And.intro) <;> omega) | (dsimp only; (repeat' apply And.intro) <;> omega) | trivial
    · ((repeat' (first | exact trivial | apply And.intro)) <;> (first | rfl | exact succ8 (by omega) | exact succ64 (by omega) | exact CapOk.fn (by assumption) _ _ | exact vintS (by omega) | exact vintS (by rw [w64 (by omega) (by omega)]; omega) | exact vintS (by rw [w8 (by omega) (by omega)]; omega) | exact vslcS (by omega) | exact vslcS (by simp)))
    · ((repeat' (first | exact trivial | apply And.intro)) <;> ((first | refine ⟨_, _, rfl, rfl, ?_⟩ | refine ⟨_, _, rfl, renFlow rfl rfl, ?_⟩); first | (first | exact congrArg (fun l => some (D.agg l)) flow_setG | exact cset (by rw [e64]; exact e2)) | rfl))
  have hih : (i : Int) < r.h := by simpa using h2
  have hon : onR r i c := ⟨hih, hcn⟩
  have ed : dR r w i c = drI r i c (wtI r w c i) := by unfold dR; rw [if_pos hon]
  have setF : ∀ (o : Nat), o = i * 17 + c → ∀ x y : D, (dripL (ptR (dR r w) c i) ++ [x, y]).set o (.v (.int .i32 (drI r i c (wtI r w c i)))) = dripL (ptR (dR r w) c (i + 1)) ++ [x, y] := fun o ho x y => by
    rw [flow_set (i := i) (c := c) ho (by omega) (by omega), ← ed, ptR_put]
  have ew : wtI r w c (i + 1) = IntKind.i32.wrap (wtI r w c i - drI r i c (wtI r w c i)) := by rw [w32 (by omega) (by omega)]; rfl
  have cov2 : Sat Try.prog 192 [roofD r, .v (.int .i64 (IntKind.i64.wrap ((i : Int) - 1))), .v (.int .i64 c)] (.v (.int .u8 (if 0 < i then ovI r (i - 1) c else 0))) := by
    by_cases h0 : 0 < i
    · rw [if_pos h0, show IntKind.i64.wrap ((i : Int) - 1) = ((i - 1 : Nat) : Int) by rw [w64 (by omega) (by omega)]; omega]
      exact covering_sat r hr hb (i - 1) c (by omega) (by omega)
    · rw [if_neg h0]
      exact coveringNo_sat r c _ (by rw [w64 (by omega) (by omega)]; omega)
  clear h2
  conv => whnf
  repeat (first | (refine And.intro (by first | exact Nat.le_of_ble_eq_true rfl | exact mapOkP | exact rfl | decide | omega | (simp [splice]; done) | (constructor <;> omega) | (simp [splice]; omega)) ?_; conv => whnf) | (refine optK_of (raiA (by omega)) ?_; conv => whnf) | (refine optK_of (raiA' (by omega)) ?_; conv => whnf) | (refine optK_of (dripA (by omega) (by omega)) ?_; conv => whnf) | (refine optK_of (roofN (by omega) (by omega)) ?_; conv => whnf) | (refine optK_of (gridN (by omega) (by omega)) ?_; conv => whnf) | (refine optK_of (flowG) ?_; conv => whnf) | (refine optK_of (flowM) ?_; conv => whnf) | (refine optK_of (intA (by omega)) ?_; conv => whnf) | (refine optK_of (intA' (by omega)) ?_; conv => whnf))
  first | refine ⟨_, _, rfl, Sat.of_eq (tileAt_sat r hr hb i c (by omega) (by omega)) (by repeat (first | rfl | exact vfull (by first | (simp [splice]; done) | (simp [splice]; omega)) | exact rfull (by first | (simp [splice]; done) | (simp [splice]; omega)) | exact vplace (by simp; done) (by omega) | exact vrow (by simp; done) (by omega) | exact vtiles (by simp) | exact vsplice (by simp) (by simp) | refine ceq ?_ ?_ | refine Eq.trans (vsplice (by first | (simp; done) | (simp; omega)) (by first | (simp; done) | (simp; omega))) ?_)), ?_⟩ | refine .inl ⟨_, _, rfl, Sat.of_eq (tileAt_sat r hr hb i c (by omega) (by omega)) (by repeat (first | rfl | exact vfull (by first | (simp [splice]; done) | (simp [splice]; omega)) | exact rfull (by first | (simp [splice]; done) | (simp [splice]; omega)) | exact vplace (by simp; done) (by omega) | exact vrow (by simp; done) (by omega) | exact vtiles (by simp) | exact vsplice (by simp) (by simp) | refine ceq ?_ ?_ | refine Eq.trans (vsplice (by first | (simp; done) | (simp; omega)) (by first | (simp; done) | (simp; omega))) ?_)), ?_⟩
  conv => whnf
  repeat (first | (refine And.intro (by first | exact Nat.le_of_ble_eq_true rfl | exact mapOkP | exact rfl | decide | omega | (simp [splice]; done) | (constructor <;> omega) | (simp [splice]; omega)) ?_; conv => whnf) | (refine optK_of (raiA (by omega)) ?_; conv => whnf) | (refine optK_of (raiA' (by omega)) ?_; conv => whnf) | (refine optK_of (dripA (by omega) (by omega)) ?_; conv => whnf) | (refine optK_of (roofN (by omega) (by omega)) ?_; conv => whnf) | (refine optK_of (gridN (by omega) (by omega)) ?_; conv => whnf) | (refine optK_of (flowG) ?_; conv => whnf) | (refine optK_of (flowM) ?_; conv => whnf) | (refine optK_of (intA (by omega)) ?_; conv => whnf) | (refine optK_of (intA' (by omega)) ?_; conv => whnf))
  cases h3 : (tlI r i c != -1)
  case true =>
    conv => whnf
    repeat (first | (refine And.intro (by first | exact Nat.le_of_ble_eq_true rfl | exact mapOkP | exact rfl | decide | omega | (simp [splice]; done) | (constructor <;> omega) | (simp [splice]; omega)) ?_; conv => whnf) | (refine optK_of (raiA (by omega)) ?_; conv => whnf) | (refine optK_of (raiA' (by omega)) ?_; conv => whnf) | (refine optK_of (dripA (by omega) (by omega)) ?_; conv => whnf) | (refine optK_of (roofN (by omega) (by omega)) ?_; conv => whnf) | (refine optK_of (gridN (by omega) (by omega)) ?_; conv => whnf) | (refine optK_of (flowG) ?_; conv => whnf) | (refine optK_of (flowM) ?_; conv => whnf) | (refine optK_of (intA (by omega)) ?_; conv => whnf) | (refine optK_of (intA' (by omega)) ?_; conv => whnf))
    cases h4 : decide (wtI r w c i > 0)
    case' true => refine region11 rfl rfl rfl rfl ?_
    all_goals
      clear h4
      conv => whnf
      repeat (first | (refine And.intro (by first | exact Nat.le_of_ble_eq_true rfl | exact mapOkP | exact rfl | decide | omega | (simp [splice]; done) | (constructor <;> omega) | (simp [splice]; omega)) ?_; conv => whnf) | (refine optK_of (raiA (by omega)) ?_; conv => whnf) | (refine optK_of (raiA' (by omega)) ?_; conv => whnf) | (refine optK_of (dripA (by omega) (by omega)) ?_; conv => whnf) | (refine optK_of (roofN (by omega) (by omega)) ?_; conv => whnf) | (refine optK_of (gridN (by omega) (by omega)) ?_; conv => whnf) | (refine optK_of (flowG) ?_; conv => whnf) | (refine optK_of (flowM) ?_; conv => whnf) | (refine optK_of (intA (by omega)) ?_; conv => whnf) | (refine optK_of (intA' (by omega)) ?_; conv => whnf))
      first | refine ⟨_, _, rfl, Sat.of_eq (covering_sat r hr hb i c (by omega) (by omega)) (by repeat (first | rfl | exact vfull (by first | (simp [splice]; done) | (simp [splice]; omega)) | exact rfull (by first | (simp [splice]; done) | (simp [splice]; omega)) | exact vplace (by simp; done) (by omega) | exact vrow (by simp; done) (by omega) | exact vtiles (by simp) | exact vsplice (by simp) (by simp) | refine ceq ?_ ?_ | refine Eq.trans (vsplice (by first | (simp; done) | (simp; omega)) (by first | (simp; done) | (simp; omega))) ?_)), ?_⟩ | refine .inl ⟨_, _, rfl, Sat.of_eq (covering_sat r hr hb i c (by omega) (by omega)) (by repeat (first | rfl | exact vfull (by first | (simp [splice]; done) | (simp [splice]; omega)) | exact rfull (by first | (simp [splice]; done) | (simp [splice]; omega)) | exact vplace (by simp; done) (by omega) | exact vrow (by simp; done) (by omega) | exact vtiles (by simp) | exact vsplice (by simp) (by simp) | refine ceq ?_ ?_ | refine Eq.trans (vsplice (by first | (simp; done) | (simp; omega)) (by first | (simp; done) | (simp; omega))) ?_)), ?_⟩
      conv => whnf
      repeat (first | (refine And.intro (by first | exact Nat.le_of_ble_eq_true rfl | exact mapOkP | exact rfl | decide | omega | (simp [splice]; done) | (constructor <;> omega) | (simp [splice]; omega)) ?_; conv => whnf) | (refine optK_of (raiA (by omega)) ?_; conv => whnf) | (refine optK_of (raiA' (by omega)) ?_; conv => whnf) | (refine optK_of (dripA (by omega) (by omega)) ?_; conv => whnf) | (refine optK_of (roofN (by omega) (by omega)) ?_; conv => whnf) | (refine optK_of (gridN (by omega) (by omega)) ?_; conv => whnf) | (refine optK_of (flowG) ?_; conv => whnf) | (refine optK_of (flowM) ?_; conv => whnf) | (refine optK_of (intA (by omega)) ?_; conv => whnf) | (refine optK_of (intA' (by omega)) ?_; conv => whnf))
      first | refine ⟨_, _, rfl, Sat.of_eq (cov2) (by repeat (first | rfl | exact vfull (by first | (simp [splice]; done) | (simp [splice]; omega)) | exact rfull (by first | (simp [splice]; done) | (simp [splice]; omega)) | exact vplace (by simp; done) (by omega) | exact vrow (by simp; done) (by omega) | exact vtiles (by simp) | exact vsplice (by simp) (by simp) | refine ceq ?_ ?_ | refine Eq.trans (vsplice (by first | (simp; done) | (simp; omega)) (by first | (simp; done) | (simp; omega))) ?_)), ?_⟩ | refine .inl ⟨_, _, rfl, Sat.of_eq (cov2) (by repeat (first | rfl | exact vfull (by first | (simp [splice]; done) | (simp [splice]; omega)) | exact rfull (by first | (simp [splice]; done) | (simp [splice]; omega)) | exact vplace (by simp; done) (by omega) | exact vrow (by simp; done) (by omega) | exact vtiles (by simp) | exact vsplice (by simp) (by simp) | refine ceq ?_ ?_ | refine Eq.trans (vsplice (by first | (simp; done) | (simp; omega)) (by first | (simp; done) | (simp; omega))) ?_)), ?_⟩
      conv => whnf
      repeat (first | (refine And.intro (by first | exact Nat.le_of_ble_eq_true rfl | exact mapOkP | exact rfl | decide | omega | (simp [splice]; done) | (constructor <;> omega) | (simp [splice]; omega)) ?_; conv => whnf) | (refine optK_of (raiA (by omega)) ?_; conv => whnf) | (refine optK_of (raiA' (by omega)) ?_; conv => whnf) | (refine optK_of (dripA (by omega) (by omega)) ?_; conv => whnf) | (refine optK_of (roofN (by omega) (by omega)) ?_; conv => whnf) | (refine optK_of (gridN (by omega) (by omega)) ?_; conv => whnf) | (refine optK_of (flowG) ?_; conv => whnf) | (refine optK_of (flowM) ?_; conv => whnf) | (refine optK_of (intA (by omega)) ?_; conv => whnf) | (refine optK_of (intA' (by omega)) ?_; conv => whnf))
      first | refine ⟨_, _, rfl, Sat.of_eq (dripOf_sat _ _ _ hwi) (by repeat (first | rfl | exact vfull (by first | (simp [splice]; done) | (simp [splice]; omega)) | exact rfull (by first | (simp [splice]; done) | (simp [splice]; omega)) | exact vplace (by simp; done) (by omega) | exact vrow (by simp; done) (by omega) | exact vtiles (by simp) | exact vsplice (by simp) (by simp) | refine ceq ?_ ?_ | refine Eq.trans (vsplice (by first | (simp; done) | (simp; omega)) (by first | (simp; done) | (simp; omega))) ?_)), ?_⟩ | refine .inl ⟨_, _, rfl, Sat.of_eq (dripOf_sat _ _ _ hwi) (by repeat (first | rfl | exact vfull (by first | (simp [splice]; done) | (simp [splice]; omega)) | exact rfull (by first | (simp [splice]; done) | (simp [splice]; omega)) | exact vplace (by simp; done) (by omega) | exact vrow (by simp; done) (by omega) | exact vtiles (by simp) | exact vsplice (by simp) (by simp) | refine ceq ?_ ?_ | refine Eq.trans (vsplice (by first | (simp; done) | (simp; omega)) (by first | (simp; done) | (simp; omega))) ?_)), ?_⟩
      conv => whnf
      repeat (first | (refine And.intro (by first | exact Nat.le_of_ble_eq_true rfl | exact mapOkP | exact rfl | decide | omega | (simp [splice]; done) | (constructor <;> omega) | (simp [splice]; omega)) ?_; conv => whnf) | (refine optK_of (raiA (by omega)) ?_; conv => whnf) | (refine optK_of (raiA' (by omega)) ?_; conv => whnf) | (refine optK_of (dripA (by omega) (by omega)) ?_; conv => whnf) | (refine optK_of (roofN (by omega) (by omega)) ?_; conv => whnf) | (refine optK_of (gridN (by omega) (by omega)) ?_; conv => whnf) | (refine optK_of (flowG) ?_; conv => whnf) | (refine optK_of (flowM) ?_; conv => whnf) | (refine optK_of (intA (by omega)) ?_; conv => whnf) | (refine optK_of (intA' (by omega)) ?_; conv => whnf))
      rw [dofI_eq]
      repeat (first | (refine And.intro (by first | exact Nat.le_of_ble_eq_true rfl | exact mapOkP | exact rfl | decide | omega | (simp [splice]; done) | (constructor <;> omega) | (simp [splice]; omega)) ?_; conv => whnf) | (refine optK_of (raiA (by omega)) ?_; conv => whnf) | (refine optK_of (raiA' (by omega)) ?_; conv => whnf) | (refine optK_of (dripA (by omega) (by omega)) ?_; conv => whnf) | (refine optK_of (roofN (by omega) (by omega)) ?_; conv => whnf) | (refine optK_of (gridN (by omega) (by omega)) ?_; conv => whnf) | (refine optK_of (flowG) ?_; conv => whnf) | (refine optK_of (flowM) ?_; conv => whnf) | (refine optK_of (intA (by omega)) ?_; conv => whnf) | (refine optK_of (intA' (by omega)) ?_; conv => whnf))
      refine ⟨i + 1, ?_, ?_, sim_of (rn := [((2, 0, 0), (2, 0, 0)), ((3, 0, 0), (3, 0, 0)), ((4, 0, 0), (4, 0, 0)), ((5, 0, 0), (5, 0, 0)), ((71, 0, 0), (71, 0, 0))]) rfl ?_ ?_⟩
      · (dsimp only; omega)
      · first | omega | (dsimp only; omega) | ((repeat' apply And.intro) <;> omega) | (dsimp only; (repeat' apply And.intro) <;> omega) | trivial
      · ((repeat' (first | exact trivial | apply And.intro)) <;> (first | rfl | (exact vintS ew) | exact succ8 (by omega) | exact succ64 (by omega) | exact CapOk.fn (by assumption) _ _ | exact vintS (by omega) | exact vintS (by rw [w64 (by omega) (by omega)]; omega) | exact vintS (by rw [w8 (by omega) (by omega)]; omega) | exact vslcS (by omega) | exact vslcS (by simp)))
      · ((repeat' (first | exact trivial | apply And.intro)) <;> ((first | refine ⟨_, _, rfl, rfl, ?_⟩ | refine ⟨_, _, rfl, renFlow rfl rfl, ?_⟩); first | (((conv => lhs; whnf); exact congrArg (fun l => some (D.agg l)) (setF _ (by simp) _ _))) | rfl))
  conv => whnf
  repeat (first | (refine And.intro (by first | exact Nat.le_of_ble_eq_true rfl | exact mapOkP | exact rfl | decide | omega | (simp [splice]; done) | (constructor <;> omega) | (simp [splice]; omega)) ?_; conv => whnf) | (refine optK_of (raiA (by omega)) ?_; conv => whnf) | (refine optK_of (raiA' (by omega)) ?_; conv => whnf) | (refine optK_of (dripA (by omega) (by omega)) ?_; conv => whnf) | (refine optK_of (roofN (by omega) (by omega)) ?_; conv => whnf) | (refine optK_of (gridN (by omega) (by omega)) ?_; conv => whnf) | (refine optK_of (flowG) ?_; conv => whnf) | (refine optK_of (flowM) ?_; conv => whnf) | (refine optK_of (intA (by omega)) ?_; conv => whnf) | (refine optK_of (intA' (by omega)) ?_; conv => whnf))
  first | refine ⟨_, _, rfl, Sat.of_eq (covering_sat r hr hb i c (by omega) (by omega)) (by repeat (first | rfl | exact vfull (by first | (simp [splice]; done) | (simp [splice]; omega)) | exact rfull (by first | (simp [splice]; done) | (simp [splice]; omega)) | exact vplace (by simp; done) (by omega) | exact vrow (by simp; done) (by omega) | exact vtiles (by simp) | exact vsplice (by simp) (by simp) | refine ceq ?_ ?_ | refine Eq.trans (vsplice (by first | (simp; done) | (simp; omega)) (by first | (simp; done) | (simp; omega))) ?_)), ?_⟩ | refine .inl ⟨_, _, rfl, Sat.of_eq (covering_sat r hr hb i c (by omega) (by omega)) (by repeat (first | rfl | exact vfull (by first | (simp [splice]; done) | (simp [splice]; omega)) | exact rfull (by first | (simp [splice]; done) | (simp [splice]; omega)) | exact vplace (by simp; done) (by omega) | exact vrow (by simp; done) (by omega) | exact vtiles (by simp) | exact vsplice (by simp) (by simp) | refine ceq ?_ ?_ | refine Eq.trans (vsplice (by first | (simp; done) | (simp; omega)) (by first | (simp; done) | (simp; omega))) ?_)), ?_⟩
  conv => whnf
  repeat (first | (refine And.intro (by first | exact Nat.le_of_ble_eq_true rfl | exact mapOkP | exact rfl | decide | omega | (simp [splice]; done) | (constructor <;> omega) | (simp [splice]; omega)) ?_; conv => whnf) | (refine optK_of (raiA (by omega)) ?_; conv => whnf) | (refine optK_of (raiA' (by omega)) ?_; conv => whnf) | (refine optK_of (dripA (by omega) (by omega)) ?_; conv => whnf) | (refine optK_of (roofN (by omega) (by omega)) ?_; conv => whnf) | (refine optK_of (gridN (by omega) (by omega)) ?_; conv => whnf) | (refine optK_of (flowG) ?_; conv => whnf) | (refine optK_of (flowM) ?_; conv => whnf) | (refine optK_of (intA (by omega)) ?_; conv => whnf) | (refine optK_of (intA' (by omega)) ?_; conv => whnf))
  first | refine ⟨_, _, rfl, Sat.of_eq (cov2) (by repeat (first | rfl | exact vfull (by first | (simp [splice]; done) | (simp [splice]; omega)) | exact rfull (by first | (simp [splice]; done) | (simp [splice]; omega)) | exact vplace (by simp; done) (by omega) | exact vrow (by simp; done) (by omega) | exact vtiles (by simp) | exact vsplice (by simp) (by simp) | refine ceq ?_ ?_ | refine Eq.trans (vsplice (by first | (simp; done) | (simp; omega)) (by first | (simp; done) | (simp; omega))) ?_)), ?_⟩ | refine .inl ⟨_, _, rfl, Sat.of_eq (cov2) (by repeat (first | rfl | exact vfull (by first | (simp [splice]; done) | (simp [splice]; omega)) | exact rfull (by first | (simp [splice]; done) | (simp [splice]; omega)) | exact vplace (by simp; done) (by omega) | exact vrow (by simp; done) (by omega) | exact vtiles (by simp) | exact vsplice (by simp) (by simp) | refine ceq ?_ ?_ | refine Eq.trans (vsplice (by first | (simp; done) | (simp; omega)) (by first | (simp; done) | (simp; omega))) ?_)), ?_⟩
  conv => whnf
  repeat (first | (refine And.intro (by first | exact Nat.le_of_ble_eq_true rfl | exact mapOkP | exact rfl | decide | omega | (simp [splice]; done) | (constructor <;> omega) | (simp [splice]; omega)) ?_; conv => whnf) | (refine optK_of (raiA (by omega)) ?_; conv => whnf) | (refine optK_of (raiA' (by omega)) ?_; conv => whnf) | (refine optK_of (dripA (by omega) (by omega)) ?_; conv => whnf) | (refine optK_of (roofN (by omega) (by omega)) ?_; conv => whnf) | (refine optK_of (gridN (by omega) (by omega)) ?_; conv => whnf) | (refine optK_of (flowG) ?_; conv => whnf) | (refine optK_of (flowM) ?_; conv => whnf) | (refine optK_of (intA (by omega)) ?_; conv => whnf) | (refine optK_of (intA' (by omega)) ?_; conv => whnf))
  first | refine ⟨_, _, rfl, Sat.of_eq (dripOf_sat _ _ _ hwi) (by repeat (first | rfl | exact vfull (by first | (simp [splice]; done) | (simp [splice]; omega)) | exact rfull (by first | (simp [splice]; done) | (simp [splice]; omega)) | exact vplace (by simp; done) (by omega) | exact vrow (by simp; done) (by omega) | exact vtiles (by simp) | exact vsplice (by simp) (by simp) | refine ceq ?_ ?_ | refine Eq.trans (vsplice (by first | (simp; done) | (simp; omega)) (by first | (simp; done) | (simp; omega))) ?_)), ?_⟩ | refine .inl ⟨_, _, rfl, Sat.of_eq (dripOf_sat _ _ _ hwi) (by repeat (first | rfl | exact vfull (by first | (simp [splice]; done) | (simp [splice]; omega)) | exact rfull (by first | (simp [splice]; done) | (simp [splice]; omega)) | exact vplace (by simp; done) (by omega) | exact vrow (by simp; done) (by omega) | exact vtiles (by simp) | exact vsplice (by simp) (by simp) | refine ceq ?_ ?_ | refine Eq.trans (vsplice (by first | (simp; done) | (simp; omega)) (by first | (simp; done) | (simp; omega))) ?_)), ?_⟩
  conv => whnf
  repeat (first | (refine And.intro (by first | exact Nat.le_of_ble_eq_true rfl | exact mapOkP | exact rfl | decide | omega | (simp [splice]; done) | (constructor <;> omega) | (simp [splice]; omega)) ?_; conv => whnf) | (refine optK_of (raiA (by omega)) ?_; conv => whnf) | (refine optK_of (raiA' (by omega)) ?_; conv => whnf) | (refine optK_of (dripA (by omega) (by omega)) ?_; conv => whnf) | (refine optK_of (roofN (by omega) (by omega)) ?_; conv => whnf) | (refine optK_of (gridN (by omega) (by omega)) ?_; conv => whnf) | (refine optK_of (flowG) ?_; conv => whnf) | (refine optK_of (flowM) ?_; conv => whnf) | (refine optK_of (intA (by omega)) ?_; conv => whnf) | (refine optK_of (intA' (by omega)) ?_; conv => whnf))
  rw [dofI_eq]
  repeat (first | (refine And.intro (by first | exact Nat.le_of_ble_eq_true rfl | exact mapOkP | exact rfl | decide | omega | (simp [splice]; done) | (constructor <;> omega) | (simp [splice]; omega)) ?_; conv => whnf) | (refine optK_of (raiA (by omega)) ?_; conv => whnf) | (refine optK_of (raiA' (by omega)) ?_; conv => whnf) | (refine optK_of (dripA (by omega) (by omega)) ?_; conv => whnf) | (refine optK_of (roofN (by omega) (by omega)) ?_; conv => whnf) | (refine optK_of (gridN (by omega) (by omega)) ?_; conv => whnf) | (refine optK_of (flowG) ?_; conv => whnf) | (refine optK_of (flowM) ?_; conv => whnf) | (refine optK_of (intA (by omega)) ?_; conv => whnf) | (refine optK_of (intA' (by omega)) ?_; conv => whnf))
  refine ⟨i + 1, ?_, ?_, sim_of (rn := [((2, 0, 0), (2, 0, 0)), ((3, 0, 0), (3, 0, 0)), ((4, 0, 0), (4, 0, 0)), ((5, 0, 0), (5, 0, 0)), ((71, 0, 0), (71, 0, 0))]) rfl ?_ ?_⟩
  · (dsimp only; omega)
  · first | omega | (dsimp only; omega) | ((repeat' apply And.intro) <;> omega) | (dsimp only; (repeat' apply And.intro) <;> omega) | trivial
  · ((repeat' (first | exact trivial | apply And.intro)) <;> (first | rfl | (exact vintS ew) | exact succ8 (by omega) | exact succ64 (by omega) | exact CapOk.fn (by assumption) _ _ | exact vintS (by omega) | exact vintS (by rw [w64 (by omega) (by omega)]; omega) | exact vintS (by rw [w8 (by omega) (by omega)]; omega) | exact vslcS (by omega) | exact vslcS (by simp)))
  · ((repeat' (first | exact trivial | apply And.intro)) <;> ((first | refine ⟨_, _, rfl, rfl, ?_⟩ | refine ⟨_, _, rfl, renFlow rfl rfl, ?_⟩); first | (((conv => lhs; whnf); exact congrArg (fun l => some (D.agg l)) (setF _ (by simp) _ _))) | rfl))
end Go.Proofs.Ytndlknhakdadjaa
/- Plain words: rain that is valid, how much drips in all, the best tile to make whole. -/
set_option linter.unusedVariables false
set_option linter.unusedSimpArgs false
namespace Go.V
def rnB (r : Roof) (w : Nat → Int) (c : Nat) : Bool := deepB (w c) && !(decide ((c : Int) ≥ 2 * r.w + 1) && w c != 0)
def okN (r : Roof) (w : Nat → Int) : Bool := okR r && (List.range 17).all (rnB r w)
theorem okN_R {r : Roof} {w : Nat → Int} (h : okN r w = true) : okR r = true := by unfold okN at h; rw [Bool.and_eq_true] at h; exact h.1
theorem okN_w {r : Roof} {w : Nat → Int} (h : okN r w = true) : ∀ c, c < 17 → 0 ≤ w c ∧ w c ≤ 1000 := by
  intro c hc
  unfold okN at h
  rw [Bool.and_eq_true] at h
  have := List.all_eq_true.1 h.2 c (by simpa using hc)
  unfold rnB at this
  rw [Bool.and_eq_true] at this
  have := this.1
  unfold deepB at this
  simpa using this
theorem okN_no {r : Roof} {w : Nat → Int} {c : Nat} (hc : c < 17) (h : rnB r w c = false) : okN r w = false := by
  unfold okN
  rw [Bool.and_eq_false_iff]
  right
  rw [List.all_eq_false]
  exact ⟨c, by simpa using hc, by simp [h]⟩
theorem okN_yes {r : Roof} {w : Nat → Int} (hR : okR r = true) (h : ∀ c, c < 17 → rnB r w c = true) : okN r w = true := by
  unfold okN
  rw [Bool.and_eq_true]
  exact ⟨hR, List.all_eq_true.2 fun c hc => h c (by simpa using hc)⟩
def smT (p : Nat → Int) : Nat → Int
  | 0 => 0
  | n + 1 => smT p n + p n
/-- The sum of a table's first rows. -/
def totS (f : Nat → Nat → Int) (n : Nat) : Int := smT (fun i => smT (f i) 17) n
def InM (f : Nat → Nat → Int) : Prop := ∀ i c, c < 17 → 0 ≤ f i c ∧ f i c ≤ 1000
theorem smT_in {p : Nat → Int} {b : Nat} {m : Nat} (h : ∀ i, i < m → 0 ≤ p i ∧ p i ≤ b) : ∀ n, n ≤ m → 0 ≤ smT p n ∧ smT p n ≤ (n * b : Nat)
  | 0, _ => by simp [smT]
  | n + 1, hn => by
    have ih := smT_in h n (by omega)
    have := h n (by omega)
    rw [Nat.succ_mul]
    simp only [smT]; omega
theorem row_in {f : Nat → Nat → Int} (h : InM f) (i : Nat) {c : Nat} (hc : c ≤ 17) : 0 ≤ smT (f i) c ∧ smT (f i) c ≤ 17000 := by
  have := smT_in (b := 1000) (m := 17) (fun c hc => h i c hc) c hc
  omega
theorem tot_in {f : Nat → Nat → Int} (h : InM f) {n : Nat} (hn : n ≤ 8) : 0 ≤ totS f n ∧ totS f n ≤ 136000 := by
  have := smT_in (p := fun i => smT (f i) 17) (b := 17000) (m := 8) (fun i _ => row_in h i (Nat.le_refl _)) n hn
  unfold totS
  omega
theorem smT_zero {p : Nat → Int} {m : Nat} (h : ∀ i, i < m → p i = 0) : ∀ n, n ≤ m → smT p n = 0
  | 0, _ => rfl
  | n + 1, hn => by simp only [smT, smT_zero h n (by omega), h n (by omega), Int.add_zero]
theorem smT_more {p : Nat → Int} {n : Nat} (h : ∀ i, n ≤ i → p i = 0) : ∀ k, smT p (n + k) = smT p n
  | 0 => rfl
  | k + 1 => by
    show smT p (n + k) + p (n + k) = _
    rw [smT_more h k, h _ (by omega), Int.add_zero]
theorem tot_top {f : Nat → Nat → Int} {n : Nat} (h : ∀ i, n ≤ i → ∀ c, f i c = 0) (hn : n ≤ 8) : totS f 8 = totS f n := by
  have := smT_more (p := fun i => smT (f i) 17) (n := n) (fun i hi => smT_zero (m := 17) (fun c _ => h i hi c) 17 (Nat.le_refl _)) (8 - n)
  unfold totS
  rw [← this, show n + (8 - n) = 8 by omega]
/-- How much drips in all. -/
def dsI (r : Roof) (w : Nat → Int) : Int := totS (dR r w) 8
theorem dR_inM (r : Roof) {w : Nat → Int} (h : ∀ c, c < 17 → 0 ≤ w c ∧ w c ≤ 1000) : InM (dR r w) := fun i c hc => dR_in r h hc
theorem dsI_in (r : Roof) {w : Nat → Int} (h : ∀ c, c < 17 → 0 ≤ w c ∧ w c ≤ 1000) : 0 ≤ dsI r w ∧ dsI r w ≤ 136000 := tot_in (dR_inM r h) (Nat.le_refl _)
theorem dsI_h {r : Roof} {w : Nat → Int} (hh : 0 ≤ r.h ∧ r.h ≤ 8) : dsI r w = totS (dR r w) r.h.toNat :=
  tot_top (fun i hi c => by unfold dR; rw [if_neg (by unfold onR; omega)]) (by omega)
/-- How much less drips if a tile is whole. -/
def svI (r : Roof) (w : Nat → Int) (c k : Nat) : Int := dsI r w - dsI (putR r c k 0) w
def wrB (r : Roof) (c k : Nat) : Bool := r.t c k != 0
def wrP (r : Roof) : List Pl := allP r (wrB r)
/-- The best of a list of places, if it has one. -/
def bsO (a : Nat → Nat → Int) (ps : List Pl) : Option Pl := ps.foldl (fun b q => match b with | none => some q | some m => if a q.1 q.2 > a m.1 m.2 then some q else some m) none
theorem bsO_snoc (a : Nat → Nat → Int) (ps : List Pl) (q : Pl) : bsO a (ps ++ [q]) = match bsO a ps with | none => some q | some m => if a q.1 q.2 > a m.1 m.2 then some q else some m := by
  unfold bsO; rw [List.foldl_append]; rfl
theorem nthP_left {ps : List Pl} {q : Pl} {i : Nat} (h : i < ps.length) : nthP (ps ++ [q]) i = nthP ps i := by
  unfold nthP
  rw [List.getD_eq_getElem?_getD, List.getD_eq_getElem?_getD, List.getElem?_append_left h]
theorem nthP_last {ps : List Pl} {q : Pl} : nthP (ps ++ [q]) ps.length = q := by
  unfold nthP
  rw [List.getD_eq_getElem?_getD]; simp
theorem nthP_mem {ps : List Pl} {i : Nat} (h : i < ps.length) : nthP ps i ∈ ps := List.mem_of_getElem? (nthP_some h)
theorem bestL_left {a : Nat → Nat → Int} {ps : List Pl} {q : Pl} : ∀ {i : Nat}, i < ps.length → bestL a (ps ++ [q]) i = bestL a ps i
  | 0, h => by simp only [bestL, nthP_left h]
  | i + 1, h => by simp only [bestL, nthP_left h, bestL_left (ps := ps) (q := q) (i := i) (by omega)]
theorem bestL_mem2 {a : Nat → Nat → Int} {ps : List Pl} : ∀ {i : Nat}, i < ps.length → bestL a ps i ∈ ps
  | 0, h => nthP_mem h
  | i + 1, h => by
    simp only [bestL]
    split
    · exact nthP_mem h
    · exact bestL_mem2 (by omega)
theorem snoc_ind {α : Type} {P : List α → Prop} (h0 : P []) (h : ∀ l x, P l → P (l ++ [x])) (l : List α) : P l := by
  have : ∀ n (l : List α), l.length = n → P l := by
    intro n
    induction n with
    | zero => intro l hl; rw [List.length_eq_zero_iff.1 hl]; exact h0
    | succ n ih =>
      intro l hl
      have hne : l ≠ [] := by rintro rfl; simp at hl
      rw [← List.dropLast_concat_getLast hne]
      exact h _ _ (ih _ (by simp [hl]))
  exact this _ l rfl
theorem bsO_best (a : Nat → Nat → Int) (ps : List Pl) : 0 < ps.length → bsO a ps = some (bestL a ps (ps.length - 1)) := by
  refine snoc_ind (P := fun ps => 0 < ps.length → bsO a ps = some (bestL a ps (ps.length - 1))) (by simp) (fun l x ih _ => ?_) ps
  rw [bsO_snoc]
  cases hl : l.length with
  | zero =>
    rw [List.length_eq_zero_iff.1 hl]; rfl
  | succ n =>
    rw [ih (by omega)]
    have e : (l ++ [x]).length - 1 = n + 1 := by simp [hl]
    have e2 : l.length - 1 = n := by omega
    have e3 : nthP (l ++ [x]) (n + 1) = x := by rw [← hl]; exact nthP_last
    rw [e, e2]
    simp only [bestL, e3, bestL_left (q := x) (show n < l.length by omega)]
    split <;> rfl
/-- The tile that is best made whole. -/
def bwP (r : Roof) (w : Nat → Int) : Pl := bestL (svI r w) (wrP r) ((wrP r).length - 1)
def mdR (r : Roof) (w : Nat → Int) : Nat → Roof
  | 0 => r
  | n + 1 => putR (mdR r w n) (bwP (mdR r w n) w).1 (bwP (mdR r w n) w).2 0
def mdL (r : Roof) (w : Nat → Int) : Nat → List Pl
  | 0 => []
  | n + 1 => mdL r w n ++ [bwP (mdR r w n) w]
@[simp] theorem mdR_w (r : Roof) (w : Nat → Int) : ∀ n, (mdR r w n).w = r.w
  | 0 => rfl
  | n + 1 => mdR_w r w n
@[simp] theorem mdR_h (r : Roof) (w : Nat → Int) : ∀ n, (mdR r w n).h = r.h
  | 0 => rfl
  | n + 1 => mdR_h r w n
@[simp] theorem mdR_s (r : Roof) (w : Nat → Int) : ∀ n, (mdR r w n).s = r.s
  | 0 => rfl
  | n + 1 => mdR_s r w n
theorem mdR_in {r : Roof} (hr : r.In) (w : Nat → Int) : ∀ n, (mdR r w n).In
  | 0 => hr
  | n + 1 => putR_in (mdR_in hr w n) (by omega)
@[simp] theorem mdL_len (r : Roof) (w : Nat → Int) : ∀ n, (mdL r w n).length = n
  | 0 => rfl
  | n + 1 => by simp [mdL, mdL_len r w n]
theorem wrP_eq (r : Roof) : wrP r = (gridP r.w.toNat r.h.toNat).filter fun q => wrB r q.1 q.2 := allP_eq r _
theorem wrP_drop {r : Roof} {q : Pl} (h : q ∈ wrP r) : (wrP (putR r q.1 q.2 0)).length < (wrP r).length := by
  rw [wrP_eq] at h
  rw [wrP_eq, wrP_eq]
  show ((gridP r.w.toNat r.h.toNat).filter fun x => wrB (putR r q.1 q.2 0) x.1 x.2).length < _
  have e : ((gridP r.w.toNat r.h.toNat).filter fun x => wrB (putR r q.1 q.2 0) x.1 x.2) = ((gridP r.w.toNat r.h.toNat).filter fun q => wrB r q.1 q.2).filter fun x => x != q := by
    rw [List.filter_filter]
    apply List.filter_congr
    intro x _
    unfold wrB putR putG
    by_cases hx : x = q
    · subst hx; simp
    · have : ¬ (x.1 = q.1 ∧ x.2 = q.2) := fun h => hx (Prod.ext h.1 h.2)
      have hx' : (x != q) = true := by simpa using hx
      simp [this, hx']
  rw [e]
  exact List.length_filter_lt_length_iff_exists.2 ⟨q, h, by simp⟩
theorem wrP_ne {r : Roof} {w : Nat → Int} (hw : ∀ c, c < 17 → 0 ≤ w c ∧ w c ≤ 1000) (hb : (1 ≤ r.w ∧ r.w ≤ 8) ∧ (1 ≤ r.h ∧ r.h ≤ 8) ∧ r.s ≤ 1) (h : 0 < dsI r w) : 0 < (wrP r).length := by
  rcases Nat.eq_zero_or_pos (wrP r).length with h0 | h0
  · exfalso
    have hall : ∀ c k : Nat, (c : Int) < r.h → (k : Int) < r.w → r.t c k = 0 := by
      intro c k hc hk
      have hm : (c, k) ∈ gridP r.w.toNat r.h.toNat := by
        unfold gridP rowP
        simp only [List.mem_flatMap, List.mem_range, List.mem_map]
        exact ⟨c, by omega, k, by omega, rfl⟩
      rw [List.length_eq_zero_iff, wrP_eq] at h0
      have := List.filter_eq_nil_iff.1 h0 _ hm
      unfold wrB at this
      simpa using this
    have hd : ∀ i c, dR r w i c = 0 := by
      intro i c
      unfold dR
      split
      · rename_i hon
        have ho : ovI r i c = 0 := by
          have := tlI_range r i c
          unfold ovI
          split
          · rfl
          · exact hall _ _ hon.1 (by omega)
        unfold drI
        rw [ho]
        rfl
      · rfl
    have : dsI r w = 0 := by
      unfold dsI totS
      exact smT_zero (m := 8) (fun i _ => smT_zero (m := 17) (fun c _ => hd i c) 17 (Nat.le_refl _)) 8 (Nat.le_refl _)
    omega
  · exact h0
theorem bwP_mem {r : Roof} {w : Nat → Int} (h : 0 < (wrP r).length) : bwP r w ∈ wrP r := bestL_mem2 (by omega)
/-- After how many tiles no more than the bound drips. -/
def mdN (r : Roof) (w : Nat → Int) (b : Int) : Nat := ((List.range 66).find? fun n => decide (dsI (mdR r w n) w ≤ b)).getD 0
theorem mdN_is {r : Roof} {w : Nat → Int} {b : Int} {n : Nat} (hn : n ≤ 64) (h : dsI (mdR r w n) w ≤ b) (hno : ∀ j, j < n → b < dsI (mdR r w j) w) : mdN r w b = n := by
  unfold mdN
  rw [find_some (s := n) (by omega) (by simpa using h) (fun j hj => by have := hno j hj; simp; omega)]
  rfl
def mdK (r : Roof) (w : Nat → Int) (b : Int) : Int := if okN r w = true then (if 0 ≤ b then 0 else 2) else 1
def mdX (r : Roof) (w : Nat → Int) (b : Int) : List Pl := if mdK r w b = 0 then mdL r w (mdN r w b) else []
theorem mdN_le (r : Roof) (w : Nat → Int) (b : Int) : mdN r w b ≤ 65 := by
  unfold mdN
  cases h : (List.range 66).find? fun n => decide (dsI (mdR r w n) w ≤ b) with
  | none => simp
  | some x => have := List.mem_of_find?_eq_some h; simp at this ⊢; omega
theorem mdX_len (r : Roof) (w : Nat → Int) (b : Int) : (mdX r w b).length ≤ 65 := by
  have := mdN_le r w b
  unfold mdX
  split
  · simpa using this
  · simp
/-- What holds before each round. -/
structure MdOk (r : Roof) (w : Nat → Int) (b : Int) (n : Nat) : Prop where
  le : n + (wrP (mdR r w n)).length ≤ 64
  no : ∀ j, j < n → b < dsI (mdR r w j) w
theorem MdOk.zero {r : Roof} (hb : (1 ≤ r.w ∧ r.w ≤ 8) ∧ (1 ≤ r.h ∧ r.h ≤ 8) ∧ r.s ≤ 1) (w : Nat → Int) (b : Int) : MdOk r w b 0 :=
  ⟨by have := allP_len hb (wrB r); show 0 + (wrP r).length ≤ 64; unfold wrP; omega, fun j hj => by omega⟩
theorem MdOk.next {r : Roof} (hb : (1 ≤ r.w ∧ r.w ≤ 8) ∧ (1 ≤ r.h ∧ r.h ≤ 8) ∧ r.s ≤ 1) {w : Nat → Int} (hw : ∀ c, c < 17 → 0 ≤ w c ∧ w c ≤ 1000) {b : Int} (hb0 : 0 ≤ b) {n : Nat} (h : MdOk r w b n) (hd : b < dsI (mdR r w n) w) :
    0 < (wrP (mdR r w n)).length ∧ MdOk r w b (n + 1) := by
  have hne := wrP_ne (r := mdR r w n) hw (by simpa using hb) (by omega)
  refine ⟨hne, ?_, fun j hj => ?_⟩
  · have := wrP_drop (bwP_mem (w := w) hne)
    have h1 := h.le
    simp only [mdR]
    omega
  · by_cases hjn : j = n
    · subst hjn; exact hd
    · exact h.no j (by omega)
theorem bwP_in {r : Roof} (hb : (1 ≤ r.w ∧ r.w ≤ 8) ∧ (1 ≤ r.h ∧ r.h ≤ 8) ∧ r.s ≤ 1) {w : Nat → Int} (h : 0 < (wrP r).length) : (bwP r w).1 < 8 ∧ (bwP r w).2 < 8 :=
  bestL_in (allP_in hb (wrB r)) _ (by unfold wrP; unfold wrP at h; omega)
end Go.V
