import Derived.Test.YtcnenmcagkbppaaP3
import Derived.Test.YtcnenmcagkbppaaP2
import Derived.Test.YtcnenmcagkbppaaVT
import Derived.Test.YtcnenmcagkbppaaP1
set_option linter.unusedVariables false
set_option linter.unusedSimpArgs false
/- Gutters: flows, the fewest pipes, the first minute in which something runs over, leaves: contracts, both sides. -/
set_option linter.unusedVariables false
set_option linter.unusedSimpArgs false
namespace Go.V
/- Words for the walks of this text: their default arguments are tried where they are used. -/
theorem go_E23 {P Q : Prop} (k : Q) (h : P := by first | exact Nat.le_of_ble_eq_true rfl | exact rfl | decide | omega | (simp [splice]; done) | (constructor <;> omega) | (simp [splice]; omega)) : P ∧ Q := ⟨h, k⟩
theorem lk_E23 {α : Type} {o : Option α} {K : α → Prop} {x : α} (k : K x) (h : o = some x := by first | exact watA (by omega) | exact watA' (by omega) | exact watP (by omega) (by omega) | exact hDA (by omega) | exact hDA' (by omega) | exact gutA (by omega) | exact pipeA (by omega) | exact pipeB (by omega) | exact pipeSA (by omega) | exact pipeSB (by omega) | exact upA (by omega) | exact intA (by omega) | exact intA' (by omega)) : optK o K := optK_of h k
theorem sc_E23 {P : Program} {g : FuncId} {args args' : List D} {res : D} (h : Sat P g args res) (e : args' = args := by repeat (first | rfl | exact vfull (by first | (simp [splice]; done) | (simp [splice]; omega)) | exact rfull (by first | (simp [splice]; done) | (simp [splice]; omega)) | exact vzero17 | exact vpipe (by simp; done) (by omega) | exact vsplice (by simp) (by simp) | refine ceq ?_ ?_ | refine Eq.trans (vsplice (by first | (simp; done) | (simp; omega)) (by first | (simp; done) | (simp; omega))) ?_)) : Sat P g args' res := Sat.of_eq h e
theorem sm_E23 {low : Bool} {P : Program} {g : FuncId} {args args' ms ms0 : List D} {res : D} {ms' : List (Option D)} {news : List D} (h : SatB low P g args ms res ms' news) (e : args' = args := by repeat (first | rfl | exact vfull (by first | (simp [splice]; done) | (simp [splice]; omega)) | exact rfull (by first | (simp [splice]; done) | (simp [splice]; omega)) | exact vzero17 | exact vpipe (by simp; done) (by omega) | exact vsplice (by simp) (by simp) | refine ceq ?_ ?_ | refine Eq.trans (vsplice (by first | (simp; done) | (simp; omega)) (by first | (simp; done) | (simp; omega))) ?_)) (e2 : ms0 = ms := by repeat (first | rfl | exact vfull (by first | (simp [splice]; done) | (simp [splice]; omega)) | exact rfull (by first | (simp [splice]; done) | (simp [splice]; omega)) | exact vzero17 | exact vpipe (by simp; done) (by omega) | exact vsplice (by simp) (by simp) | refine ceq ?_ ?_ | refine Eq.trans (vsplice (by first | (simp; done) | (simp; omega)) (by first | (simp; done) | (simp; omega))) ?_)) : SatB low P g args' ms0 res ms' news := SatB.of_eq h e e2
theorem leaf_E23 {P : Prop} (h : P := by first | rfl | exact succ8 (by omega) | exact succ64 (by omega) | exact CapOk.fn (by assumption) _ _ | exact vintS (by omega) | exact vintS (by rw [w64 (by omega) (by omega)]; omega) | exact vintS (by rw [w8 (by omega) (by omega)]; omega) | exact vslcS (by omega) | exact vslcS (by simp)) : P := h
theorem hold_E23 {P : Prop} (h : P := by (repeat' (first | exact trivial | apply And.intro)) <;> (first | rfl | exact succ8 (by omega) | exact succ64 (by omega) | exact CapOk.fn (by assumption) _ _ | exact vintS (by omega) | exact vintS (by rw [w64 (by omega) (by omega)]; omega) | exact vintS (by rw [w8 (by omega) (by omega)]; omega) | exact vslcS (by omega) | exact vslcS (by simp))) : P := h
theorem okt_E23 {P : Prop} (h : P := by first | omega | (dsimp only; omega) | ((repeat' apply And.intro) <;> omega) | (dsimp only; (repeat' apply And.intro) <;> omega) | trivial) : P := h
end Go.V
namespace Go.V
theorem up_ix {n i : Nat} (h : i < n) : ix (upL n) i = (i : Int) := by
  unfold ix upL
  rw [List.getD_eq_getElem?_getD, List.getElem?_map, List.getElem?_range h]; rfl
theorem up_map (g : Gut) (n : Nat) : (upL n).map (fun x => toP g x.toNat) = flL g n := by
  unfold upL flL
  rw [List.map_map]
  exact List.map_congr_left fun c _ => by show toP g ((c : Int)).toNat = toP g c; simp
/-- No minute up to some one in which something runs over. -/
theorem fs_some {g : Gut} {xs : List Int} {m : Nat} (hm : m < 200) (h : minO g (wM g (fun _ => 0) xs m) xs > 0) (hall : ∀ j, j < m → ¬ minO g (wM g (fun _ => 0) xs j) xs > 0) : fsO g xs = some m :=
  find_some hm (by simpa using h) fun j hj => by simpa using hall j hj
theorem fs_none {g : Gut} {xs : List Int} (hall : ∀ j, j < 200 → ¬ minO g (wM g (fun _ => 0) xs j) xs > 0) : fsO g xs = none :=
  find_none fun j hj => by simpa using hall j hj
end Go.V
namespace Go.Proofs.Ytcnenmcagkbppaa
open Go.V
theorem specFlowsTo_sat (g : Gut) (hg : g.In) (hk : okG g = true) : Sat Try.prog 8 [gutD false g] (.tup [intsD true (flL g g.n.toNat), .v (.int .i64 0)]) := by
  have ho := okG_ok hk
  have hn := ho.n
  have en : IntKind.i64.wrap g.n = g.n := w64 (by omega) (by omega)
  have sO := l06Ok_sat g hg
  rw [hk] at sO
  refine sat_of_wp hMix tOk Try.func8 rfl rfl Try.ntmps8 rfl rfl Try.results8 (by kernel_rfl) ?_
  conv => whnf
  repeat (first | (refine go_E23 ?_; conv => whnf) | (refine lk_E23 ?_; conv => whnf))
  first | refine ⟨_, _, rfl, sc_E23 (sO), ?_⟩ | refine .inl ⟨_, _, rfl, sc_E23 (sO), ?_⟩
  conv => whnf
  repeat (first | (refine go_E23 ?_; conv => whnf) | (refine lk_E23 ?_; conv => whnf))
  refine loop_rule (α := Nat) (fun k => [(1, .ptr (1, 0, 0) 0), (4, .slc true 1 (21, 0, 0) 0 (flL g k).length), (5, .v (.int .i64 k))]) (fun k => [((1, 0, 0), gutD false g), ((21, 0, 0), .v (.agg ⟨intsC (flL g k)⟩))]) (fun k => k ≤ g.n.toNat) (fun k => g.n.toNat - k) (0) ?_ (sim_of (rn := [((1, 0, 0), (1, 0, 0)), ((21, 0, 0), (6, 0, 0))]) rfl ?_ ?_) ?_
  · exact okt_E23
  · exact hold_E23
  · ((repeat' (first | exact trivial | apply And.intro)) <;> ((first | refine ⟨_, _, rfl, rfl, ?_⟩ ); first | rfl | (exact cset (show [] = intsC [] from intsC_nil.symm))))
  intro k hkk
  have hll := flL_len g k
  conv => whnf
  repeat (first | (refine go_E23 ?_; conv => whnf) | (refine lk_E23 ?_; conv => whnf))
  rw [en]
  cases h : decide ((k : Int) < g.n)
  · have hkn : k = g.n.toNat := by simp at h; omega
    subst hkn
    conv => whnf
    repeat (first | (refine go_E23 ?_; conv => whnf) | (refine lk_E23 ?_; conv => whnf))
    first | refine ⟨rfl, _, rfl, ?_⟩ | refine ⟨_, rfl, ?_⟩
    rfl
  have hkn : (k : Int) < g.n := by simpa using h
  conv => whnf
  repeat (first | (refine go_E23 ?_; conv => whnf) | (refine lk_E23 ?_; conv => whnf))
  first | refine ⟨_, _, rfl, sc_E23 (l06To_sat g hg ho k hkn), ?_⟩ | refine .inl ⟨_, _, rfl, sc_E23 (l06To_sat g hg ho k hkn), ?_⟩
  conv => whnf
  repeat (first | (refine go_E23 ?_; conv => whnf) | (refine lk_E23 ?_; conv => whnf))
  have e2 : intsC (flL g k) ++ [.int .i64 (toP g k)] = intsC (flL g (k + 1)) := by rw [flL_snoc, intsC_append, intsC_one]
  have e3 : (flL g (k + 1)).length = (flL g k).length + 1 := by rw [flL_snoc]; simp
  conv => whnf
  repeat (first | (refine go_E23 ?_; conv => whnf) | (refine lk_E23 ?_; conv => whnf))
  refine ⟨k + 1, ?_, ?_, sim_of (rn := [((1, 0, 0), (1, 0, 0)), ((21, 0, 0), (21, 1, 0))]) rfl ?_ ?_⟩
  · (dsimp only; omega)
  · exact okt_E23
  · ((repeat' (first | exact trivial | apply And.intro)) <;> (first | rfl | (exact vslcS e3) | exact leaf_E23))
  · ((repeat' (first | exact trivial | apply And.intro)) <;> ((first | refine ⟨_, _, rfl, rfl, ?_⟩ ); first | rfl | (exact cset e2)))
theorem eachIN_sat {g : Nat} {caps : List D} {f : Int → Int} (xs : List Int) (hl : xs.length ≤ 1048576) (m : Bool) (hc : CapOk caps) (hg : ∀ i, i < xs.length → Sat Try.prog g (.v (.int .i64 (ix xs i)) :: caps) (.v (.int .i64 (f (ix xs i))))) :
    Sat Try.prog 35 [intsD m xs, .fn (.func g) [] caps] (intsD true (xs.map f)) := by
  refine satN_of_wp hMix tOk Try.func35 rfl rfl Try.ntmps35 rfl rfl Try.results35 (by kernel_rfl) ?_
  conv => whnf
  repeat (first | (refine go_E23 ?_; conv => whnf) | (refine lk_E23 ?_; conv => whnf))
  refine loop_rule (α := Nat) (fun i => [(1, .fn (.func g) [] caps), (5, .slc true 1 (19, 0, 0) 0 ((xs.take i).map f).length), (8, intsD m xs), (9, .v (.int .i64 xs.length)), (10, .v (.int .i64 i))]) (fun i => [((19, 0, 0), .v (.agg ⟨intsC ((xs.take i).map f)⟩))]) (fun i => i ≤ xs.length) (fun i => xs.length - i) (0) ?_ (sim_of (rn := [((19, 0, 0), nilId)]) rfl ?_ ?_) ?_
  · exact okt_E23
  · exact hold_E23
  · ((repeat' (first | exact trivial | apply And.intro)) <;> ((first | refine ⟨_, _, rfl, rfl, ?_⟩ ); first | rfl | ((exact cset (show [] = intsC [] from intsC_nil.symm)))))
  intro i hi
  have hml : ((xs.take i).map f).length = i := by simp; omega
  conv => whnf
  repeat (first | (refine go_E23 ?_; conv => whnf) | (refine lk_E23 ?_; conv => whnf))
  cases h : decide ((i : Int) < (xs.length : Int))
  · have hin : i = xs.length := by simp at h; omega
    subst hin
    rw [List.take_length]
    conv => whnf
    repeat (first | (refine go_E23 ?_; conv => whnf) | (refine lk_E23 ?_; conv => whnf))
    first | refine ⟨rfl, _, rfl, [_], rfl, ?_, rfl⟩ | refine ⟨_, rfl, [_], rfl, ?_, rfl⟩
    ((repeat' (first | exact trivial | apply And.intro)) <;> first | exact .inl rfl | exact .inr ⟨rfl, rfl⟩)
  have hin : i < xs.length := by simpa using h
  conv => whnf
  repeat (first | (refine go_E23 ?_; conv => whnf) | (refine lk_E23 ?_; conv => whnf))
  first | refine ⟨_, _, CapOk.one (by assumption) rfl, sc_E23 (hg i hin), ?_⟩ | refine .inl ⟨_, _, CapOk.one (by assumption) rfl, sc_E23 (hg i hin), ?_⟩
  conv => whnf
  repeat (first | (refine go_E23 ?_; conv => whnf) | (refine lk_E23 ?_; conv => whnf))
  have e2 : intsC ((xs.take i).map f) ++ [.int .i64 (f (ix xs i))] = intsC ((xs.take (i + 1)).map f) := by rw [itake_next hin, List.map_append, intsC_append, List.map_singleton, intsC_one]
  have hml' : ((xs.take (i + 1)).map f).length = i + 1 := by simp; omega
  refine ⟨i + 1, ?_, ?_, sim_of (rn := [((19, 0, 0), (19, 1, 0))]) rfl ?_ ?_⟩
  · (dsimp only; omega)
  · exact okt_E23
  · ((repeat' (first | exact trivial | apply And.intro)) <;> (first | rfl | (exact vslcS (by omega)) | exact leaf_E23))
  · ((repeat' (first | exact trivial | apply And.intro)) <;> ((first | refine ⟨_, _, rfl, rfl, ?_⟩ ); first | rfl | (exact cset e2)))
theorem flowsTo1_sat (g : Gut) (hg : g.In) (ho : g.Ok) (c : Nat) (hc : (c : Int) < g.n) : Sat Try.prog 37 [.v (.int .i64 c), .ref false (gutD false g) 0] (.v (.int .i64 (toP g c))) := by
  have hn := ho.n
  have hr := toP_range hc
  refine sat_of_wp hMix tOk Try.func37 rfl rfl Try.ntmps37 rfl rfl Try.results37 (by kernel_rfl) ?_
  conv => whnf
  repeat (first | (refine go_E23 ?_; conv => whnf) | (refine lk_E23 ?_; conv => whnf))
  first | refine ⟨_, _, rfl, sc_E23 (flowsTo_sat g hg ho c hc), ?_⟩ | refine .inl ⟨_, _, rfl, sc_E23 (flowsTo_sat g hg ho c hc), ?_⟩
  conv => whnf
  repeat (first | (refine go_E23 ?_; conv => whnf) | (refine lk_E23 ?_; conv => whnf))
  try rw [show IntKind.i64.wrap (toP g c) = toP g c from w64 (by omega) (by omega)]
  first | refine ⟨rfl, _, rfl, ?_⟩ | refine ⟨_, rfl, ?_⟩
  rfl
theorem implFlowsTo_sat (g : Gut) (hg : g.In) (hk : okG g = true) : Sat Try.prog 7 [gutD false g] (.tup [intsD true (flL g g.n.toNat), .v (.int .i64 0)]) := by
  have ho := okG_ok hk
  have hn := ho.n
  have sO := validGutter_sat g hg
  rw [hk] at sO
  have hcap : CapOk [.ref false (gutD false g) 0] := ⟨fun _ => rfl, fun _ => rfl⟩
  have hul : (upL g.n.toNat).length = g.n.toNat := upL_len _
  have sE := eachIN_sat (g := 37) (f := fun x => toP g x.toNat) (upL g.n.toNat) (by omega) false hcap (fun i hi => by rw [up_ix (by omega), Int.toNat_natCast]; exact flowsTo1_sat g hg ho i (by omega))
  rw [up_map] at sE
  refine sat_of_wp hMix tOk Try.func7 rfl rfl Try.ntmps7 rfl rfl Try.results7 (by kernel_rfl) ?_
  conv => whnf
  repeat (first | (refine go_E23 ?_; conv => whnf) | (refine lk_E23 ?_; conv => whnf))
  first | refine ⟨_, _, rfl, sc_E23 (sO), ?_⟩ | refine .inl ⟨_, _, rfl, sc_E23 (sO), ?_⟩
  conv => whnf
  repeat (first | (refine go_E23 ?_; conv => whnf) | (refine lk_E23 ?_; conv => whnf))
  first | refine ⟨_, _, rfl, sc_E23 (gcells_sat g ho), ?_⟩ | refine .inl ⟨_, _, rfl, sc_E23 (gcells_sat g ho), ?_⟩
  conv => whnf
  repeat (first | (refine go_E23 ?_; conv => whnf) | (refine lk_E23 ?_; conv => whnf))
  first | refine ⟨_, _, rfl, sc_E23 (sE), ?_⟩ | refine .inl ⟨_, _, rfl, sc_E23 (sE), ?_⟩
  conv => whnf
  repeat (first | (refine go_E23 ?_; conv => whnf) | (refine lk_E23 ?_; conv => whnf))
  first | refine ⟨rfl, _, rfl, ?_⟩ | refine ⟨_, rfl, ?_⟩
  rfl
set_option maxRecDepth 4000 in
theorem l06Over_sat (g : Gut) (hg : g.In) (ho : g.Ok) (xs : List Int) (hx : RainOk g xs) (b : Bool) :
    Sat Try.prog 70 [.ref false (gutD false g) 0, intsD b xs] (.v (.int .i64 (match fsO g xs with | some m => (m : Int) | none => -1))) := by
  have e17 : watC (fun _ => 0) = List.replicate 17 (.int .i32 0) := watC_zero
  have hw0 : W17 1000 (fun _ => 0) := ⟨fun _ _ => by omega⟩
  refine sat_of_wp hMix tOk Try.func70 rfl rfl Try.ntmps70 rfl rfl Try.results70 (by kernel_rfl) ?_
  conv => whnf
  repeat (first | (refine go_E23 ?_; conv => whnf) | (refine lk_E23 ?_; conv => whnf))
  refine loop_rule (α := Nat) (fun i => [(0, .ref false (gutD false g) 0), (1, intsD b xs), (5, .ptr (5, 0, 0) 0), (6, .v (.int .i64 i))]) (fun i => [((5, 0, 0), watD (wM g (fun _ => 0) xs i))]) (fun i => i ≤ 200 ∧ ∀ j, j < i → ¬ minO g (wM g (fun _ => 0) xs j) xs > 0) (fun i => 200 - i) (0) ?_ (sim_of (rn := [((5, 0, 0), (5, 0, 0))]) rfl ?_ ?_) ?_
  · exact ⟨by omega, fun j hj => by omega⟩
  · exact hold_E23
  · ((repeat' (first | exact trivial | apply And.intro)) <;> ((first | refine ⟨_, _, rfl, rfl, ?_⟩ ); first | rfl | (exact cset (by first | exact e17.symm | (rw [splice_all (by simp)]; exact e17.symm)))))
  rintro i ⟨hi, hall⟩
  have hwi := wM_in ho hw0 hx i
  conv => whnf
  repeat (first | (refine go_E23 ?_; conv => whnf) | (refine lk_E23 ?_; conv => whnf))
  cases h3 : decide ((i : Int) < 200)
  · have hin : i = 200 := by simp at h3; omega
    subst hin
    rw [fs_none hall]
    conv => whnf
    repeat (first | (refine go_E23 ?_; conv => whnf) | (refine lk_E23 ?_; conv => whnf))
    first | refine ⟨rfl, _, rfl, ?_⟩ | refine ⟨_, rfl, ?_⟩
    rfl
  have hin : i < 200 := by simp at h3; omega
  have hmo := minO_in ho hwi hx
  have nxt := fun h => below_succ (p := fun j => ¬ minO g (wM g (fun _ => 0) xs j) xs > 0) hall h
  have fsm := fun h => fs_some hin h hall
  conv => whnf
  repeat (first | (refine go_E23 ?_; conv => whnf) | (refine lk_E23 ?_; conv => whnf))
  first | refine ⟨[(5, 0, 0)], _, _, _, _, _, _, _, _, rfl, rfl, rfl, rfl, (sm_E23 (l06Minute_satR g hg ho (wM g (fun _ => 0) xs i) hwi xs hx false)), rfl, rfl, rfl, rfl, ?_⟩ | refine .inr ⟨[(5, 0, 0)], _, _, _, _, _, _, _, _, rfl, rfl, rfl, rfl, (sm_E23 (l06Minute_satR g hg ho (wM g (fun _ => 0) xs i) hwi xs hx false)), rfl, rfl, rfl, rfl, ?_⟩ | refine ⟨[(5, 0, 0)], _, _, _, _, _, rfl, rfl, rfl, rfl, (sm_E23 (l06Minute_satR g hg ho (wM g (fun _ => 0) xs i) hwi xs hx false)), rfl, rfl, ?_⟩
  conv => whnf
  repeat (first | (refine go_E23 ?_; conv => whnf) | (refine lk_E23 ?_; conv => whnf))
  cases h4 : decide (minO g (wM g (fun _ => 0) xs i) xs > 0)
  · conv => whnf
    repeat (first | (refine go_E23 ?_; conv => whnf) | (refine lk_E23 ?_; conv => whnf))
    refine ⟨i + 1, ?_, ?_, sim_of (rn := [((5, 0, 0), (5, 0, 0))]) rfl ?_ ?_⟩
    · (dsimp only; omega)
    · exact ⟨by omega, nxt (by simpa using h4)⟩
    · exact hold_E23
    · ((repeat' (first | exact trivial | apply And.intro)) <;> ((first | refine ⟨_, _, rfl, rfl, ?_⟩ ); rfl))
  rw [fsm (by simpa using h4)]
  conv => whnf
  repeat (first | (refine go_E23 ?_; conv => whnf) | (refine lk_E23 ?_; conv => whnf))
  first | refine ⟨rfl, _, rfl, ?_⟩ | refine ⟨_, rfl, ?_⟩
  rfl
set_option maxRecDepth 4000 in
theorem firstOver_sat (g : Gut) (hg : g.In) (ho : g.Ok) (xs : List Int) (hx : RainOk g xs) (b : Bool) :
    Sat Try.prog 67 [gutD false g, intsD b xs] (.v (.int .i64 (match fsO g xs with | some m => (m : Int) | none => 200))) := by
  have e17 : watC (fun _ => 0) = List.replicate 17 (.int .i32 0) := watC_zero
  have hw0 : W17 1000 (fun _ => 0) := ⟨fun _ _ => by omega⟩
  refine sat_of_wp hMix tOk Try.func67 rfl rfl Try.ntmps67 rfl rfl Try.results67 (by kernel_rfl) ?_
  conv => whnf
  repeat (first | (refine go_E23 ?_; conv => whnf) | (refine lk_E23 ?_; conv => whnf))
  refine loop_rule (α := Nat) (fun i => [(1, intsD b xs), (2, .ptr (2, 0, 0) 0), (5, .ptr (5, 0, 0) 0), (10, .v (.int .i64 i))]) (fun i => [((2, 0, 0), gutD false g), ((5, 0, 0), watD (wM g (fun _ => 0) xs i))]) (fun i => i ≤ 200 ∧ ∀ j, j < i → ¬ minO g (wM g (fun _ => 0) xs j) xs > 0) (fun i => 200 - i) (0) ?_ (sim_of (rn := [((2, 0, 0), (2, 0, 0)), ((5, 0, 0), (5, 0, 0))]) rfl ?_ ?_) ?_
  · exact ⟨by omega, fun j hj => by omega⟩
  · exact hold_E23
  · ((repeat' (first | exact trivial | apply And.intro)) <;> ((first | refine ⟨_, _, rfl, rfl, ?_⟩ ); first | rfl | (exact cset (by first | exact e17.symm | (rw [splice_all (by simp)]; exact e17.symm)))))
  rintro i ⟨hi, hall⟩
  have hwi := wM_in ho hw0 hx i
  conv => whnf
  repeat (first | (refine go_E23 ?_; conv => whnf) | (refine lk_E23 ?_; conv => whnf))
  cases h3 : decide ((i : Int) < 200)
  · have hin : i = 200 := by simp at h3; omega
    subst hin
    rw [fs_none hall]
    conv => whnf
    repeat (first | (refine go_E23 ?_; conv => whnf) | (refine lk_E23 ?_; conv => whnf))
    first | refine ⟨rfl, _, rfl, ?_⟩ | refine ⟨_, rfl, ?_⟩
    rfl
  have hin : i < 200 := by simp at h3; omega
  have hmo := minO_in ho hwi hx
  have nxt := fun h => below_succ (p := fun j => ¬ minO g (wM g (fun _ => 0) xs j) xs > 0) hall h
  have fsm := fun h => fs_some hin h hall
  have eW : watC (minW g (wM g (fun _ => 0) xs i) xs) = watC (wM g (fun _ => 0) xs (i + 1)) := rfl
  conv => whnf
  repeat (first | (refine go_E23 ?_; conv => whnf) | (refine lk_E23 ?_; conv => whnf))
  first | refine ⟨_, _, rfl, sc_E23 (minute_sat g hg ho (wM g (fun _ => 0) xs i) hwi xs hx false), ?_⟩ | refine .inl ⟨_, _, rfl, sc_E23 (minute_sat g hg ho (wM g (fun _ => 0) xs i) hwi xs hx false), ?_⟩
  conv => whnf
  repeat (first | (refine go_E23 ?_; conv => whnf) | (refine lk_E23 ?_; conv => whnf))
  cases h4 : decide (minO g (wM g (fun _ => 0) xs i) xs > 0)
  · conv => whnf
    repeat (first | (refine go_E23 ?_; conv => whnf) | (refine lk_E23 ?_; conv => whnf))
    refine ⟨i + 1, ?_, ?_, sim_of (rn := [((2, 0, 0), (2, 0, 0)), ((5, 0, 0), (5, 0, 0))]) rfl ?_ ?_⟩
    · (dsimp only; omega)
    · exact ⟨by omega, nxt (by simpa using h4)⟩
    · exact hold_E23
    · ((repeat' (first | exact trivial | apply And.intro)) <;> ((first | refine ⟨_, _, rfl, rfl, ?_⟩ ); first | rfl | (first | exact cset eW | (refine cset ?_; rw [splice_all (by simp), take_drop0 (by simp)]; exact eW) | (refine cset ?_; rw [splice_all (by rw [splice_all (by simp)]; simp), splice_all (by simp)]; exact (take_drop0 (by simp)).trans eW))))
  rw [fsm (by simpa using h4)]
  conv => whnf
  repeat (first | (refine go_E23 ?_; conv => whnf) | (refine lk_E23 ?_; conv => whnf))
  first | refine ⟨rfl, _, rfl, ?_⟩ | refine ⟨_, rfl, ?_⟩
  rfl
end Go.Proofs.Ytcnenmcagkbppaa
/- Gutters: the first minute, leaves taken away, the fewest pipes: contracts, both sides. -/
set_option linter.unusedVariables false
set_option linter.unusedSimpArgs false
set_option maxRecDepth 4000
namespace Go.V
/- Words for the walks of this text: their default arguments are tried where they are used. -/
theorem go_E24 {P Q : Prop} (k : Q) (h : P := by first | exact Nat.le_of_ble_eq_true rfl | exact rfl | decide | omega | (simp [splice]; done) | (constructor <;> omega) | (simp [splice]; omega)) : P ∧ Q := ⟨h, k⟩
theorem lk_E24 {α : Type} {o : Option α} {K : α → Prop} {x : α} (k : K x) (h : o = some x := by first | exact watA (by omega) | exact watA' (by omega) | exact watP (by omega) (by omega) | exact hDA (by omega) | exact hDA' (by omega) | exact gutA (by omega) | exact pipeA (by omega) | exact pipeB (by omega) | exact pipeSA (by omega) | exact pipeSB (by omega) | exact upA (by omega) | exact intA (by omega) | exact intA' (by omega)) : optK o K := optK_of h k
theorem sc_E24 {P : Program} {g : FuncId} {args args' : List D} {res : D} (h : Sat P g args res) (e : args' = args := by repeat (first | rfl | exact vfull (by first | (simp [splice]; done) | (simp [splice]; omega)) | exact rfull (by first | (simp [splice]; done) | (simp [splice]; omega)) | exact vzero17 | exact vpipe (by simp; done) (by omega) | exact vsplice (by simp) (by simp) | refine ceq ?_ ?_ | refine Eq.trans (vsplice (by first | (simp; done) | (simp; omega)) (by first | (simp; done) | (simp; omega))) ?_)) : Sat P g args' res := Sat.of_eq h e
theorem leaf_E24 {P : Prop} (h : P := by first | rfl | exact succ8 (by omega) | exact succ64 (by omega) | exact CapOk.fn (by assumption) _ _ | exact vintS (by omega) | exact vintS (by rw [w64 (by omega) (by omega)]; omega) | exact vintS (by rw [w8 (by omega) (by omega)]; omega) | exact vslcS (by omega) | exact vslcS (by simp)) : P := h
theorem hold_E24 {P : Prop} (h : P := by (repeat' (first | exact trivial | apply And.intro)) <;> (first | rfl | exact succ8 (by omega) | exact succ64 (by omega) | exact CapOk.fn (by assumption) _ _ | exact vintS (by omega) | exact vintS (by rw [w64 (by omega) (by omega)]; omega) | exact vintS (by rw [w8 (by omega) (by omega)]; omega) | exact vslcS (by omega) | exact vslcS (by simp))) : P := h
theorem okt_E24 {P : Prop} (h : P := by first | omega | (dsimp only; omega) | ((repeat' apply And.intro) <;> omega) | (dsimp only; (repeat' apply And.intro) <;> omega) | trivial) : P := h
end Go.V
namespace Go.Proofs.Ytcnenmcagkbppaa
open Go.V
theorem implFirstOver_sat (g : Gut) (hg : g.In) (hk : okG g = true) (xs : List Int) (hr : rainB g xs = true) (b : Bool) :
    Sat Try.prog 25 [gutD false g, intsD b xs] (match fsO g xs with | some m => .tup [.v (.int .i64 (m : Int)), .v (.int .i64 0)] | none => .tup [.v (.int .i64 0), .v (.int .i64 6)]) := by
  have ho := okG_ok hk
  have hn := ho.n
  have hx := rainB_ok hr
  have hxl := hx.len
  have sA := gutterCode_sat g hg true
  rw [ask0 hk] at sA
  have sR := isRain_sat g hg xs (by omega) false
  rw [hr] at sR
  have sF := firstOver_sat g hg ho xs hx false
  have hlt : ∀ m, fsO g xs = some m → m < 200 := fun m h => by
    unfold fsO at h
    have := List.mem_of_find?_eq_some h
    simpa using this
  refine sat_of_wp hMix tOk Try.func25 rfl rfl Try.ntmps25 rfl rfl Try.results25 (by kernel_rfl) ?_
  conv => whnf
  repeat (first | (refine go_E24 ?_; conv => whnf) | (refine lk_E24 ?_; conv => whnf))
  first | refine ⟨_, _, rfl, sc_E24 (sR), ?_⟩ | refine .inl ⟨_, _, rfl, sc_E24 (sR), ?_⟩
  conv => whnf
  repeat (first | (refine go_E24 ?_; conv => whnf) | (refine lk_E24 ?_; conv => whnf))
  first | refine ⟨_, _, rfl, sc_E24 (sA), ?_⟩ | refine .inl ⟨_, _, rfl, sc_E24 (sA), ?_⟩
  conv => whnf
  repeat (first | (refine go_E24 ?_; conv => whnf) | (refine lk_E24 ?_; conv => whnf))
  first | refine ⟨_, _, rfl, sc_E24 (sF), ?_⟩ | refine .inl ⟨_, _, rfl, sc_E24 (sF), ?_⟩
  conv => whnf
  repeat (first | (refine go_E24 ?_; conv => whnf) | (refine lk_E24 ?_; conv => whnf))
  cases hm : fsO g xs with
  | none =>
    conv => whnf
    repeat (first | (refine go_E24 ?_; conv => whnf) | (refine lk_E24 ?_; conv => whnf))
    first | refine ⟨rfl, _, rfl, ?_⟩ | refine ⟨_, rfl, ?_⟩
    rfl
  | some m =>
    have := hlt m hm
    dsimp only
    rw [show ((m : Int) == 200) = false by simp; omega]
    conv => whnf
    repeat (first | (refine go_E24 ?_; conv => whnf) | (refine lk_E24 ?_; conv => whnf))
    first | refine ⟨rfl, _, rfl, ?_⟩ | refine ⟨_, rfl, ?_⟩
    rfl
theorem l06Own_sat (g : Gut) (hl : g.ps.length ≤ 4) : Sat Try.prog 69 [.ref false (gutD false g) 0] (gutD true g) := by
  refine sat_of_wp hMix tOk Try.func69 rfl rfl Try.ntmps69 rfl rfl Try.results69 (by kernel_rfl) ?_
  conv => whnf
  repeat (first | (refine go_E24 ?_; conv => whnf) | (refine lk_E24 ?_; conv => whnf))
  first | refine ⟨rfl, _, rfl, ?_⟩ | refine ⟨_, rfl, ?_⟩
  skip
  have e : List.take ((0 + g.ps.length) * 2) (List.drop 0 ([] ++ pipesC g.ps)) = pipesC g.ps := by rw [Nat.zero_add, List.nil_append]; exact take_drop0 (by simp)
  refine Eq.trans (b := one' [.agg (.v (.int .i8 g.n) :: .v (.int .i16 g.dp) :: (hD g.h ++ [.v (.int .u32 g.lv), .row true 2 (.v (.agg ⟨List.take ((0 + g.ps.length) * 2) (List.drop 0 ([] ++ pipesC g.ps))⟩)) (0 + g.ps.length)]))]) ?_ rfl
  rw [e, Nat.zero_add]; rfl
theorem implCleanLeaf_sat (g : Gut) (hg : g.In) (hk : okG g = true) (c : Nat) (hc : (c : Int) < g.n) (hl : leafB g c = true) : Sat Try.prog 28 [gutD false g, .v (.int .i64 c)] (.tup [gutD true (cleanG g c), .v (.int .i64 0)]) := by
  have ho := okG_ok hk
  have hn := ho.n
  have sA := gutterCode_sat g hg true
  rw [ask0 hk] at sA
  have sC := isIn_sat g ho c
  rw [inB hc] at sC
  have sL := hasLeaves_sat g c (by omega)
  rw [hl] at sL
  refine sat_of_wp hMix tOk Try.func28 rfl rfl Try.ntmps28 rfl rfl Try.results28 (by kernel_rfl) ?_
  conv => whnf
  repeat (first | (refine go_E24 ?_; conv => whnf) | (refine lk_E24 ?_; conv => whnf))
  first | refine ⟨_, _, rfl, sc_E24 (sC), ?_⟩ | refine .inl ⟨_, _, rfl, sc_E24 (sC), ?_⟩
  conv => whnf
  repeat (first | (refine go_E24 ?_; conv => whnf) | (refine lk_E24 ?_; conv => whnf))
  first | refine ⟨_, _, rfl, sc_E24 (sA), ?_⟩ | refine .inl ⟨_, _, rfl, sc_E24 (sA), ?_⟩
  conv => whnf
  repeat (first | (refine go_E24 ?_; conv => whnf) | (refine lk_E24 ?_; conv => whnf))
  try rw [show IntKind.i64.wrap (c : Int) = c from w64 (by omega) (by omega)]
  first | refine ⟨_, _, rfl, sc_E24 (sL), ?_⟩ | refine .inl ⟨_, _, rfl, sc_E24 (sL), ?_⟩
  conv => whnf
  repeat (first | (refine go_E24 ?_; conv => whnf) | (refine lk_E24 ?_; conv => whnf))
  try rw [show IntKind.i64.wrap (c : Int) = c from w64 (by omega) (by omega)]
  first | refine ⟨_, _, rfl, sc_E24 (cleaned_sat g ho.len c (by omega)), ?_⟩ | refine .inl ⟨_, _, rfl, sc_E24 (cleaned_sat g ho.len c (by omega)), ?_⟩
  conv => whnf
  repeat (first | (refine go_E24 ?_; conv => whnf) | (refine lk_E24 ?_; conv => whnf))
  first | refine ⟨rfl, _, rfl, ?_⟩ | refine ⟨_, rfl, ?_⟩
  rfl
theorem specCleanLeaf_sat (g : Gut) (hg : g.In) (hk : okG g = true) (c : Nat) (hc : (c : Int) < g.n) (hl : leafB g c = true) : Sat Try.prog 29 [gutD false g, .v (.int .i64 c)] (.tup [gutD true (cleanG g c), .v (.int .i64 0)]) := by
  have ho := okG_ok hk
  have hn := ho.n
  have sA := l06Asked_sat g hg true
  rw [ask0 hk] at sA
  have sC := l06Cell_sat g ho c
  rw [inB hc] at sC
  have sL := l06Leaf_sat g c (by omega)
  rw [hl] at sL
  have sO := l06Own_sat g ho.len
  refine sat_of_wp hMix tOk Try.func29 rfl rfl Try.ntmps29 rfl rfl Try.results29 (by kernel_rfl) ?_
  conv => whnf
  repeat (first | (refine go_E24 ?_; conv => whnf) | (refine lk_E24 ?_; conv => whnf))
  first | refine ⟨_, _, rfl, sc_E24 (sC), ?_⟩ | refine .inl ⟨_, _, rfl, sc_E24 (sC), ?_⟩
  conv => whnf
  repeat (first | (refine go_E24 ?_; conv => whnf) | (refine lk_E24 ?_; conv => whnf))
  first | refine ⟨_, _, rfl, sc_E24 (sA), ?_⟩ | refine .inl ⟨_, _, rfl, sc_E24 (sA), ?_⟩
  conv => whnf
  repeat (first | (refine go_E24 ?_; conv => whnf) | (refine lk_E24 ?_; conv => whnf))
  first | refine ⟨_, _, rfl, sc_E24 (sL), ?_⟩ | refine .inl ⟨_, _, rfl, sc_E24 (sL), ?_⟩
  conv => whnf
  repeat (first | (refine go_E24 ?_; conv => whnf) | (refine lk_E24 ?_; conv => whnf))
  first | refine ⟨_, _, rfl, sc_E24 (sO), ?_⟩ | refine .inl ⟨_, _, rfl, sc_E24 (sO), ?_⟩
  conv => whnf
  repeat (first | (refine go_E24 ?_; conv => whnf) | (refine lk_E24 ?_; conv => whnf))
  have ec : IntKind.u64.wrap (c : Int) = (c : Int) := wu64 (by omega) (by omega)
  rw [ec]
  conv => whnf
  repeat (first | (refine go_E24 ?_; conv => whnf) | (refine lk_E24 ?_; conv => whnf))
  first | refine ⟨rfl, _, rfl, ?_⟩ | refine ⟨_, rfl, ?_⟩
  skip
  rfl
theorem fewest1_sat (g : Gut) (hg : g.In) (ho : g.Ok) (c : Nat) (hc : (c : Int) < g.n) : Sat Try.prog 42 [.v (.int .i64 c), .ref false (gutN g) 0] (.v (.bool (decide (toP (noP g) c < 0)))) := by
  have hn := ho.n
  have ho' : (noP g).Ok := ⟨ho.n, ho.dp, by simp [noP], ho.h, fun i hi => by simp [noP] at hi⟩
  have hg' : (noP g).In := ⟨hg.n, hg.dp, hg.h, hg.lv, fun i hi => by simp [noP] at hi, by simp [noP]⟩
  have hr := toP_range (g := noP g) (c := c) hc
  have sT := Sat.argOf (args' := [gutN g, .v (.int .i64 c)]) (fun w vs h => by
    simp only [RepL] at h ⊢
    obtain ⟨y, ys, rfl, h1, h2⟩ := h
    exact ⟨y, ys, rfl, gutN_rep h1, h2⟩) (flowsTo_sat (noP g) hg' ho' c hc)
  refine sat_of_wp hMix tOk Try.func42 rfl rfl Try.ntmps42 rfl rfl Try.results42 (by kernel_rfl) ?_
  conv => whnf
  repeat (first | (refine go_E24 ?_; conv => whnf) | (refine lk_E24 ?_; conv => whnf))
  first | refine ⟨_, _, rfl, sc_E24 (sT), ?_⟩ | refine .inl ⟨_, _, rfl, sc_E24 (sT), ?_⟩
  conv => whnf
  repeat (first | (refine go_E24 ?_; conv => whnf) | (refine lk_E24 ?_; conv => whnf))
  rw [show (toP (noP g) c == -1) = decide (toP (noP g) c < 0) by rw [Bool.eq_iff_iff]; simp; omega]
  conv => whnf
  repeat (first | (refine go_E24 ?_; conv => whnf) | (refine lk_E24 ?_; conv => whnf))
  first | refine ⟨rfl, _, rfl, ?_⟩ | refine ⟨_, rfl, ?_⟩
  rfl
theorem noP_in {g : Gut} (hg : g.In) : (noP g).In := ⟨hg.n, hg.dp, hg.h, hg.lv, fun i hi => by simp [noP] at hi, by simp [noP]⟩
theorem noP_ok {g : Gut} (ho : g.Ok) : (noP g).Ok := ⟨ho.n, ho.dp, by simp [noP], ho.h, fun i hi => by simp [noP] at hi⟩
theorem implFewest_sat (g : Gut) (hg : g.In) (hk : okG g = true) : Sat Try.prog 9 [gutD false g] (.tup [intsD true (toI (fwL g)), .v (.int .i64 0)]) := by
  have ho := okG_ok hk
  have sO := validGutter_sat g hg
  rw [hk] at sO
  have hcap : CapOk [.ref false (gutN g) 0] := ⟨fun _ => rfl, fun _ => rfl⟩
  have sW := Sat.argOf (args' := [gutN g, .fn (.func 42) [] [.ref false (gutN g) 0]]) (fun w vs h => by
    simp only [RepL] at h ⊢
    obtain ⟨y, ys, rfl, h1, h2⟩ := h
    exact ⟨y, ys, rfl, gutN_rep h1, h2⟩) (whichP_sat (noP g) (noP_ok ho) (fun c => decide (toP (noP g) c < 0)) hcap fun c hc => fewest1_sat g hg ho c hc)
  refine sat_of_wp hMix tOk Try.func9 rfl rfl Try.ntmps9 rfl rfl Try.results9 (by kernel_rfl) ?_
  conv => whnf
  repeat (first | (refine go_E24 ?_; conv => whnf) | (refine lk_E24 ?_; conv => whnf))
  first | refine ⟨_, _, rfl, sc_E24 (sO), ?_⟩ | refine .inl ⟨_, _, rfl, sc_E24 (sO), ?_⟩
  conv => whnf
  repeat (first | (refine go_E24 ?_; conv => whnf) | (refine lk_E24 ?_; conv => whnf))
  first | refine ⟨_, _, rfl, sc_E24 (sW), ?_⟩ | refine .inl ⟨_, _, rfl, sc_E24 (sW), ?_⟩
  conv => whnf
  repeat (first | (refine go_E24 ?_; conv => whnf) | (refine lk_E24 ?_; conv => whnf))
  first | refine ⟨rfl, _, rfl, ?_⟩ | refine ⟨_, rfl, ?_⟩
  rfl
theorem specFewest_sat (g : Gut) (hg : g.In) (hk : okG g = true) : Sat Try.prog 10 [gutD false g] (.tup [intsD true (toI (fwL g)), .v (.int .i64 0)]) := by
  have ho := okG_ok hk
  have hn := ho.n
  have en : IntKind.i64.wrap g.n = g.n := w64 (by omega) (by omega)
  obtain ⟨p, hp⟩ : ∃ p : Nat → Bool, p = fun c => decide (toP (noP g) c < 0) := ⟨_, rfl⟩
  rw [show fwL g = wh p g.n.toNat by rw [hp]; rfl]
  have sO := l06Ok_sat g hg
  rw [hk] at sO
  have sT : ∀ k : Nat, (k : Int) < g.n → Sat Try.prog 40 [.ref false (.agg (.v (.int .i8 g.n) :: .v (.int .i16 g.dp) :: (hD g.h ++ [.v (.int .u32 g.lv), .row false 2 (.v (.agg ⟨[]⟩)) 0]))) 0, .v (.int .i64 k)] (.v (.int .i64 (toP (noP g) k))) := fun k hkn => by
    have := l06To_sat (noP g) (noP_in hg) (noP_ok ho) k hkn
    unfold gutD gutL pipesD noP at this
    dsimp only at this
    rw [pipesC_nil] at this
    exact this
  refine sat_of_wp hMix tOk Try.func10 rfl rfl Try.ntmps10 rfl rfl Try.results10 (by kernel_rfl) ?_
  conv => whnf
  repeat (first | (refine go_E24 ?_; conv => whnf) | (refine lk_E24 ?_; conv => whnf))
  first | refine ⟨_, _, rfl, sc_E24 (sO), ?_⟩ | refine .inl ⟨_, _, rfl, sc_E24 (sO), ?_⟩
  conv => whnf
  repeat (first | (refine go_E24 ?_; conv => whnf) | (refine lk_E24 ?_; conv => whnf))
  refine loop_rule (α := Nat) (fun k => [(1, .ptr (1, 0, 0) 0), (4, .slc true 1 (27, 0, 0) 0 (wh p k).length), (5, .ptr (5, 0, 0) 0), (6, .v (.int .i64 k))]) (fun k => [((1, 0, 0), gutD false g), ((5, 0, 0), .agg (.v (.int .i8 g.n) :: .v (.int .i16 g.dp) :: (hD g.h ++ [.v (.int .u32 g.lv), .slc true 2 (12, 0, 0) 0 0]))), ((12, 0, 0), .v (.agg ⟨[]⟩)), ((27, 0, 0), .v (.agg ⟨intsC (toI (wh p k))⟩))]) (fun k => k ≤ g.n.toNat) (fun k => g.n.toNat - k) (0) ?_ (sim_of (rn := [((1, 0, 0), (1, 0, 0)), ((5, 0, 0), (5, 0, 0)), ((12, 0, 0), (12, 0, 0)), ((27, 0, 0), (7, 0, 0))]) rfl ?_ ?_) ?_
  · exact okt_E24
  · exact hold_E24
  · ((repeat' (first | exact trivial | apply And.intro)) <;> ((first | refine ⟨_, _, rfl, rfl, ?_⟩ ); first | rfl | (exact cset (show [] = intsC [] from intsC_nil.symm))))
  intro k hkk
  have hll := wh_len p k
  conv => whnf
  repeat (first | (refine go_E24 ?_; conv => whnf) | (refine lk_E24 ?_; conv => whnf))
  rw [en]
  cases h : decide ((k : Int) < g.n)
  · have hkn : k = g.n.toNat := by simp at h; omega
    subst hkn
    have e : D.row true 1 (.v (.agg ⟨intsC (toI (wh p g.n.toNat))⟩)) (wh p g.n.toNat).length = intsD true (toI (wh p g.n.toNat)) := by unfold intsD; rw [toI_len]
    rw [← e]
    conv => whnf
    repeat (first | (refine go_E24 ?_; conv => whnf) | (refine lk_E24 ?_; conv => whnf))
    first | refine ⟨rfl, _, rfl, ?_⟩ | refine ⟨_, rfl, ?_⟩
    rfl
  have hkn : (k : Int) < g.n := by simpa using h
  conv => whnf
  repeat (first | (refine go_E24 ?_; conv => whnf) | (refine lk_E24 ?_; conv => whnf))
  first | refine ⟨_, _, rfl, sc_E24 (sT k hkn), ?_⟩ | refine .inl ⟨_, _, rfl, sc_E24 (sT k hkn), ?_⟩
  conv => whnf
  repeat (first | (refine go_E24 ?_; conv => whnf) | (refine lk_E24 ?_; conv => whnf))
  rw [show decide (toP (noP g) k < 0) = p k by rw [hp]]
  cases h2 : p k
  · have e1 := wh_no h2
    conv => whnf
    repeat (first | (refine go_E24 ?_; conv => whnf) | (refine lk_E24 ?_; conv => whnf))
    refine ⟨k + 1, ?_, ?_, sim_of (rn := [((1, 0, 0), (1, 0, 0)), ((5, 0, 0), (5, 0, 0)), ((12, 0, 0), (12, 0, 0)), ((27, 0, 0), (27, 0, 0))]) rfl ?_ ?_⟩
    · (dsimp only; omega)
    · exact okt_E24
    · ((repeat' (first | exact trivial | apply And.intro)) <;> (first | rfl | (exact vslcS (by rw [e1])) | exact leaf_E24))
    · ((repeat' (first | exact trivial | apply And.intro)) <;> ((first | refine ⟨_, _, rfl, rfl, ?_⟩ ); first | rfl | ((exact cset (by rw [e1])))))
  have e1 := wh_yes h2
  have e2 : intsC (toI (wh p k)) ++ [.int .i64 (k : Int)] = intsC (toI (wh p (k + 1))) := by rw [e1, toI_snoc, intsC_append, intsC_one]
  have e3 : (wh p (k + 1)).length = (wh p k).length + 1 := by rw [e1]; simp
  conv => whnf
  repeat (first | (refine go_E24 ?_; conv => whnf) | (refine lk_E24 ?_; conv => whnf))
  refine ⟨k + 1, ?_, ?_, sim_of (rn := [((1, 0, 0), (1, 0, 0)), ((5, 0, 0), (5, 0, 0)), ((12, 0, 0), (12, 0, 0)), ((27, 0, 0), (27, 1, 0))]) rfl ?_ ?_⟩
  · (dsimp only; omega)
  · exact okt_E24
  · ((repeat' (first | exact trivial | apply And.intro)) <;> (first | rfl | (exact vslcS e3) | exact leaf_E24))
  · ((repeat' (first | exact trivial | apply And.intro)) <;> ((first | refine ⟨_, _, rfl, rfl, ?_⟩ ); first | rfl | (exact cset e2)))
end Go.Proofs.Ytcnenmcagkbppaa
/- Plain words: rain that runs down a roof. -/
set_option linter.unusedVariables false
set_option linter.unusedSimpArgs false
namespace Go.V
/-- Rain. -/
def raiC (w : Nat → Int) : List Value := tab 17 fun i => .int .i16 (w i)
@[simp] theorem raiC_len (w : Nat → Int) : (raiC w).length = 17 := by simp [raiC]
/-- What drips: eight courses of seventeen cells. -/
def dripC (f : Nat → Nat → Int) : List Value := tab 136 fun k => .int .i32 (f (k / 17) (k % 17))
@[simp] theorem dripC_len (f : Nat → Nat → Int) : (dripC f).length = 136 := by simp [dripC]
/-- Which tile covers a cell of a course, and of what kind it is. -/
def shN (r : Roof) (i : Nat) : Nat := (i + r.s.toNat) % 2
def tlI (r : Roof) (i c : Nat) : Int := if c < shN r i then -1 else if (((c - shN r i) / 2 : Nat) : Int) < r.w then (((c - shN r i) / 2 : Nat) : Int) else -1
def ovI (r : Roof) (i c : Nat) : Int := if tlI r i c < 0 then 0 else r.t i (tlI r i c).toNat
def drI (r : Roof) (i c : Nat) (n : Int) : Int :=
  if ovI r i c = 1 then (n + 1).tdiv 2 else if ovI r i c = 2 then (n + 2).tdiv 3 else if ovI r i c = 3 then (if 0 < i ∧ ovI r (i - 1) c = 2 then 0 else n) else 0
theorem tlI_range (r : Roof) (i c : Nat) : -1 ≤ tlI r i c ∧ (tlI r i c < 0 ∨ tlI r i c < r.w) := by
  unfold tlI
  split
  · omega
  · split <;> omega
def wtI (r : Roof) (w : Nat → Int) (c : Nat) : Nat → Int
  | 0 => w c
  | i + 1 => wtI r w c i - drI r i c (wtI r w c i)
def onR (r : Roof) (i c : Nat) : Prop := (i : Int) < r.h ∧ (c : Int) < 2 * r.w + 1
instance (r : Roof) (i c : Nat) : Decidable (onR r i c) := by unfold onR; exact inferInstance
/-- Of a roof and rain: what drips, what comes to each course, what comes to the gutter. -/
def dR (r : Roof) (w : Nat → Int) (i c : Nat) : Int := if onR r i c then drI r i c (wtI r w c i) else 0
def gtL (r : Roof) (w : Nat → Int) (n : Nat) : List Int := (List.range n).map fun c => wtI r w c r.h.toNat
@[simp] theorem gtL_len (r : Roof) (w : Nat → Int) (n : Nat) : (gtL r w n).length = n := by simp [gtL]
/-- The cells of a struct whose head is a table. -/
def dripL (f : Nat → Nat → Int) : List D := (dripC f).map D.v
@[simp] theorem dripL_len (f : Nat → Nat → Int) : (dripL f).length = 136 := by simp [dripL]
end Go.V
namespace Go.Proofs.Ytcnenmcagkbppaa
open Go.V
end Go.Proofs.Ytcnenmcagkbppaa
/- Contracts: rain that runs down a roof, both sides. -/
set_option linter.unusedVariables false
set_option linter.unusedSimpArgs false
namespace Go.V
end Go.V
namespace Go.Proofs.Ytcnenmcagkbppaa
open Go.V
section
variable (r : Roof) (hr : r.In) (hb : (1 ≤ r.w ∧ r.w ≤ 8) ∧ (1 ≤ r.h ∧ r.h ≤ 8) ∧ r.s ≤ 1)
include hr hb
end
end Go.Proofs.Ytcnenmcagkbppaa
/- Contracts: rain that runs down a roof, both sides. -/
set_option linter.unusedVariables false
set_option linter.unusedSimpArgs false
namespace Go.Proofs.Ytcnenmcagkbppaa
open Go.V
end Go.Proofs.Ytcnenmcagkbppaa
/- Plain words: rain that is valid, how much drips in all, the best tile to make whole. -/
set_option linter.unusedVariables false
set_option linter.unusedSimpArgs false
namespace Go.V
def smT (p : Nat → Int) : Nat → Int
  | 0 => 0
  | n + 1 => smT p n + p n
/-- The sum of a table's first rows. -/
def totS (f : Nat → Nat → Int) (n : Nat) : Int := smT (fun i => smT (f i) 17) n
theorem smT_zero {p : Nat → Int} {m : Nat} (h : ∀ i, i < m → p i = 0) : ∀ n, n ≤ m → smT p n = 0
  | 0, _ => rfl
  | n + 1, hn => by simp only [smT, smT_zero h n (by omega), h n (by omega), Int.add_zero]
/-- How much drips in all. -/
def dsI (r : Roof) (w : Nat → Int) : Int := totS (dR r w) 8
/-- How much less drips if a tile is whole. -/
def svI (r : Roof) (w : Nat → Int) (c k : Nat) : Int := dsI r w - dsI (putR r c k 0) w
def wrB (r : Roof) (c k : Nat) : Bool := r.t c k != 0
def wrP (r : Roof) : List Pl := allP r (wrB r)
theorem nthP_mem {ps : List Pl} {i : Nat} (h : i < ps.length) : nthP ps i ∈ ps := List.mem_of_getElem? (nthP_some h)
theorem bestL_mem2 {a : Nat → Nat → Int} {ps : List Pl} : ∀ {i : Nat}, i < ps.length → bestL a ps i ∈ ps
  | 0, h => nthP_mem h
  | i + 1, h => by
    simp only [bestL]
    split
    · exact nthP_mem h
    · exact bestL_mem2 (by omega)
/-- The tile that is best made whole. -/
def bwP (r : Roof) (w : Nat → Int) : Pl := bestL (svI r w) (wrP r) ((wrP r).length - 1)
def mdR (r : Roof) (w : Nat → Int) : Nat → Roof
  | 0 => r
  | n + 1 => putR (mdR r w n) (bwP (mdR r w n) w).1 (bwP (mdR r w n) w).2 0
def mdL (r : Roof) (w : Nat → Int) : Nat → List Pl
  | 0 => []
  | n + 1 => mdL r w n ++ [bwP (mdR r w n) w]
@[simp] theorem mdR_w (r : Roof) (w : Nat → Int) : ∀ n, (mdR r w n).w = r.w
  | 0 => rfl
  | n + 1 => mdR_w r w n
@[simp] theorem mdR_h (r : Roof) (w : Nat → Int) : ∀ n, (mdR r w n).h = r.h
  | 0 => rfl
  | n + 1 => mdR_h r w n
@[simp] theorem mdR_s (r : Roof) (w : Nat → Int) : ∀ n, (mdR r w n).s = r.s
  | 0 => rfl
  | n + 1 => mdR_s r w n
@[simp] theorem mdL_len (r : Roof) (w : Nat → Int) : ∀ n, (mdL r w n).length = n
  | 0 => rfl
  | n + 1 => by simp [mdL, mdL_len r w n]
theorem wrP_eq (r : Roof) : wrP r = (gridP r.w.toNat r.h.toNat).filter fun q => wrB r q.1 q.2 := allP_eq r _
theorem wrP_drop {r : Roof} {q : Pl} (h : q ∈ wrP r) : (wrP (putR r q.1 q.2 0)).length < (wrP r).length := by
  rw [wrP_eq] at h
  rw [wrP_eq, wrP_eq]
  show ((gridP r.w.toNat r.h.toNat).filter fun x => wrB (putR r q.1 q.2 0) x.1 x.2).length < _
  have e : ((gridP r.w.toNat r.h.toNat).filter fun x => wrB (putR r q.1 q.2 0) x.1 x.2) = ((gridP r.w.toNat r.h.toNat).filter fun q => wrB r q.1 q.2).filter fun x => x != q := by
    rw [List.filter_filter]
    apply List.filter_congr
    intro x _
    unfold wrB putR putG
    by_cases hx : x = q
    · subst hx; simp
    · have : ¬ (x.1 = q.1 ∧ x.2 = q.2) := fun h => hx (Prod.ext h.1 h.2)
      have hx' : (x != q) = true := by simpa using hx
      simp [this, hx']
  rw [e]
  exact List.length_filter_lt_length_iff_exists.2 ⟨q, h, by simp⟩
theorem wrP_ne {r : Roof} {w : Nat → Int} (hw : ∀ c, c < 17 → 0 ≤ w c ∧ w c ≤ 1000) (hb : (1 ≤ r.w ∧ r.w ≤ 8) ∧ (1 ≤ r.h ∧ r.h ≤ 8) ∧ r.s ≤ 1) (h : 0 < dsI r w) : 0 < (wrP r).length := by
  rcases Nat.eq_zero_or_pos (wrP r).length with h0 | h0
  · exfalso
    have hall : ∀ c k : Nat, (c : Int) < r.h → (k : Int) < r.w → r.t c k = 0 := by
      intro c k hc hk
      have hm : (c, k) ∈ gridP r.w.toNat r.h.toNat := by
        unfold gridP rowP
        simp only [List.mem_flatMap, List.mem_range, List.mem_map]
        exact ⟨c, by omega, k, by omega, rfl⟩
      rw [List.length_eq_zero_iff, wrP_eq] at h0
      have := List.filter_eq_nil_iff.1 h0 _ hm
      unfold wrB at this
      simpa using this
    have hd : ∀ i c, dR r w i c = 0 := by
      intro i c
      unfold dR
      split
      · rename_i hon
        have ho : ovI r i c = 0 := by
          have := tlI_range r i c
          unfold ovI
          split
          · rfl
          · exact hall _ _ hon.1 (by omega)
        unfold drI
        rw [ho]
        rfl
      · rfl
    have : dsI r w = 0 := by
      unfold dsI totS
      exact smT_zero (m := 8) (fun i _ => smT_zero (m := 17) (fun c _ => hd i c) 17 (Nat.le_refl _)) 8 (Nat.le_refl _)
    omega
  · exact h0
theorem bwP_mem {r : Roof} {w : Nat → Int} (h : 0 < (wrP r).length) : bwP r w ∈ wrP r := bestL_mem2 (by omega)
/-- What holds before each round. -/
structure MdOk (r : Roof) (w : Nat → Int) (b : Int) (n : Nat) : Prop where
  le : n + (wrP (mdR r w n)).length ≤ 64
  no : ∀ j, j < n → b < dsI (mdR r w j) w
theorem MdOk.zero {r : Roof} (hb : (1 ≤ r.w ∧ r.w ≤ 8) ∧ (1 ≤ r.h ∧ r.h ≤ 8) ∧ r.s ≤ 1) (w : Nat → Int) (b : Int) : MdOk r w b 0 :=
  ⟨by have := allP_len hb (wrB r); show 0 + (wrP r).length ≤ 64; unfold wrP; omega, fun j hj => by omega⟩
theorem MdOk.next {r : Roof} (hb : (1 ≤ r.w ∧ r.w ≤ 8) ∧ (1 ≤ r.h ∧ r.h ≤ 8) ∧ r.s ≤ 1) {w : Nat → Int} (hw : ∀ c, c < 17 → 0 ≤ w c ∧ w c ≤ 1000) {b : Int} (hb0 : 0 ≤ b) {n : Nat} (h : MdOk r w b n) (hd : b < dsI (mdR r w n) w) :
    0 < (wrP (mdR r w n)).length ∧ MdOk r w b (n + 1) := by
  have hne := wrP_ne (r := mdR r w n) hw (by simpa using hb) (by omega)
  refine ⟨hne, ?_, fun j hj => ?_⟩
  · have := wrP_drop (bwP_mem (w := w) hne)
    have h1 := h.le
    simp only [mdR]
    omega
  · by_cases hjn : j = n
    · subst hjn; exact hd
    · exact h.no j (by omega)
end Go.V
/- Contracts: whether rain is valid, how much drips in all, both sides. -/
set_option linter.unusedVariables false
set_option linter.unusedSimpArgs false
namespace Go.V
def rowsC (f : Nat → Nat → Int) (n : Nat) : List Value := ((dripC f).drop 0).take (n * 17)
@[simp] theorem rowsC_len {f : Nat → Nat → Int} {n : Nat} (h : n ≤ 8) : (rowsC f n).length = n * 17 := by unfold rowsC; simp; omega
def qL (q : Nat → Int) (n : Nat) : List Int := (List.range n).map q
@[simp] theorem qL_len (q : Nat → Int) (n : Nat) : (qL q n).length = n := by simp [qL]
end Go.V
namespace Go.Proofs.Ytcnenmcagkbppaa
open Go.V
end Go.Proofs.Ytcnenmcagkbppaa
/- Contracts: how much drips in all and how much a whole tile saves, both sides. -/
set_option linter.unusedVariables false
set_option linter.unusedSimpArgs false
namespace Go.V
end Go.V
namespace Go.Proofs.Ytcnenmcagkbppaa
open Go.V
end Go.Proofs.Ytcnenmcagkbppaa
/- Contracts: the tile that is best made whole; tiles that are made whole until no more than so much drips; the law. -/
set_option linter.unusedVariables false
set_option linter.unusedSimpArgs false
namespace Go.V
end Go.V
namespace Go.Proofs.Ytcnenmcagkbppaa
open Go.V
end Go.Proofs.Ytcnenmcagkbppaa
/- Contracts: tiles that are made whole until no more than so much drips, both sides, and the law. -/
set_option linter.unusedVariables false
set_option linter.unusedSimpArgs false
namespace Go.V
end Go.V
namespace Go.Proofs.Ytcnenmcagkbppaa
open Go.V
end Go.Proofs.Ytcnenmcagkbppaa
/- Plain words: lists of things of a fixed number of cells; lists of roofs. -/
set_option linter.unusedVariables false
set_option linter.unusedSimpArgs false
namespace Go.V
section
variable {α : Type} {f : α → List Value} {n : Nat}
theorem fm_len (hf : ∀ x, (f x).length = n) : ∀ l : List α, (l.flatMap f).length = l.length * n
  | [] => by simp
  | x :: l => by rw [List.flatMap_cons, List.length_append, hf, fm_len hf l, List.length_cons, Nat.succ_mul]; omega
end
@[irreducible] def roofsC (rs : List Roof) : List Value := rs.flatMap roofC
theorem roofsC_def (rs : List Roof) : roofsC rs = rs.flatMap roofC := by unfold roofsC; rfl
@[simp] theorem roofsC_len (rs : List Roof) : (roofsC rs).length = rs.length * 67 := by rw [roofsC_def, fm_len roofC_len]
/-- What a pointer into a list of cells leads to, told as cells of its own. -/
theorem Rep.refSub {w : World} {base : Nat} {loc : Loc} {m : Bool} {xs ys : List Value} {off n : Nat} {y : Value} (h : Rep w base loc (.ref m (.v (.agg ⟨xs⟩)) off) y) (hn : (xs.drop off).take n = ys) (hl : ys.length = n) (hpos : 0 < n) :
    Rep w base loc (.ref m (.v (.agg ⟨ys⟩)) 0) y := by
  simp only [Rep] at h ⊢
  obtain ⟨b, o, zs, rfl, hat, hav, hm, hz, hfl⟩ := h
  cases hz
  refine ⟨b, o + off, ys, rfl, ?_, hav, hm, rfl, ?_⟩
  · obtain ⟨k, e, fr, h1, h2, h3⟩ := hat
    have hle : off + n ≤ xs.length := by
      have := congrArg List.length hn
      simp at this
      omega
    refine ⟨k, e, fr, h1, by omega, ?_⟩
    have : ((k.toList.drop o).take xs.length).drop off = xs.drop off := by rw [h3]
    rw [hl, ← hn, ← this, List.drop_take, List.take_take, List.drop_drop, show min n (xs.length - off) = n by omega]
  · simp only [Flat, List.all_eq_true] at hfl ⊢
    intro x hx
    rw [← hn] at hx
    exact hfl x (List.mem_of_mem_drop (List.mem_of_mem_take hx))
theorem Sat.sub {P : Program} {g : FuncId} {m : Bool} {xs ys : List Value} {off n : Nat} {rest : List D} {res : D} (h : Sat P g (.ref m (.v (.agg ⟨ys⟩)) 0 :: rest) res) (hn : (xs.drop off).take n = ys) (hl : ys.length = n) (hpos : 0 < n) :
    Sat P g (.ref m (.v (.agg ⟨xs⟩)) off :: rest) res := by
  refine ⟨h.1, fun w vs hgl hr => h.2 w vs hgl ?_⟩
  simp only [RepL] at hr ⊢
  obtain ⟨y, yss, rfl, h1, h2⟩ := hr
  exact ⟨y, yss, rfl, h1.refSub hn hl hpos, h2⟩
end Go.V
/- Contracts: what the laws do with lists of roofs; roofs that are all as told. -/
set_option linter.unusedVariables false
set_option linter.unusedSimpArgs false
namespace Go.V
def idxX {α : Type} (p : α → Bool) (d : α) (l : List α) : Int := match (List.range l.length).find? (fun i => p (l.getD i d)) with | some i => (i : Int) | none => -1
end Go.V
namespace Go.Proofs.Ytcnenmcagkbppaa
open Go.V
end Go.Proofs.Ytcnenmcagkbppaa
/- Contracts: roofs that are all as told; whether roofs might be. -/
set_option linter.unusedVariables false
set_option linter.unusedSimpArgs false
namespace Go.V
end Go.V
namespace Go.Proofs.Ytcnenmcagkbppaa
open Go.V
end Go.Proofs.Ytcnenmcagkbppaa
/- Contracts: numbers for roofs that drip alike, both sides. -/
set_option linter.unusedVariables false
set_option linter.unusedSimpArgs false
namespace Go.V
/-- Whether two tables are one. -/
def eqD (f g : Nat → Nat → Int) : Bool := (List.range 136).all fun k => f (k / 17) (k % 17) == g (k / 17) (k % 17)
abbrev Tb := Nat → Nat → Int
def zT : Tb := fun _ _ => 0
@[irreducible] def drsC (ds : List Tb) : List Value := ds.flatMap dripC
theorem drsC_def (ds : List Tb) : drsC ds = ds.flatMap dripC := by unfold drsC; rfl
@[simp] theorem drsC_len (ds : List Tb) : (drsC ds).length = ds.length * 136 := by rw [drsC_def, fm_len dripC_len]
/-- Where a table is met first. -/
def gIx (ds : List Tb) (f : Tb) : Int := idxX (eqD f) zT ds
def gNo (ds : List Tb) (f : Tb) : Nat := if gIx ds f < 0 then ds.length else (gIx ds f).toNat
/-- The tables that were met, and the numbers of the first i roofs. -/
def snL (F : Nat → Tb) : Nat → List Tb
  | 0 => []
  | i + 1 => if gIx (snL F i) (F i) < 0 then snL F i ++ [F i] else snL F i
def goL (F : Nat → Tb) (n : Nat) : List Int := qL (fun i => (gNo (snL F i) (F i) : Nat)) n
@[simp] theorem goL_len (F : Nat → Tb) (n : Nat) : (goL F n).length = n := qL_len _ n
theorem nth_part {a x y : D} : ∀ (q : Nat) (c : D), nth [a, x] q = some c → ∃ c0, nth [a, y] q = some c0 ∧ (c0 = c ∨ (c0 = y ∧ c = x))
  | 0, c, h => ⟨a, rfl, .inl (by simpa [nth] using h)⟩
  | 1, c, h => ⟨y, rfl, .inr ⟨rfl, by simpa [nth] using h.symm⟩⟩
  | n + 2, c, h => by simp [nth] at h
theorem cond_part {a x y : D} {c : D} {b : Bool} {q : Nat} (hc : (bif b then nth [a, x] q else none) = some c) : ∃ c0, (bif b then nth [a, y] q else none) = some c0 ∧ (c0 = c ∨ (c0 = y ∧ c = x)) := by
  cases b
  · cases hc
  · exact nth_part q c hc
theorem lentM_part {a x y : D} {id : Id} {c : D} (hc : lentM [a, x] id = some c) : ∃ c0, lentM [a, y] id = some c0 ∧ (c0 = c ∨ (c0 = y ∧ c = x)) := by
  unfold lentM at hc ⊢
  exact cond_part hc
/-- A nil slice in a variable, told as a part. -/
theorem Lent.part {w : World} {bs : Nat} {l0 : Loc} {a : D} (h : Lent w bs l0 [a, .v (.agg ⟨[.slice none 0 0]⟩)]) : Lent w bs l0 [a, .agg [.v (.slice none 0 0)]] := by
  have key : ∀ id c, lentM [a, .agg [.v (.slice none 0 0)]] id = some c → ∃ c0, lentM [a, .v (.agg ⟨[.slice none 0 0]⟩)] id = some c0 ∧ ((c0 = c) ∨ (c0 = .v (.agg ⟨[.slice none 0 0]⟩) ∧ c = .agg [.v (.slice none 0 0)])) :=
    fun id c hc => lentM_part hc
  refine ⟨h.dom, fun id c hc => ?_, h.range, fun id id' c c' b n n' h1 h2 h3 h4 => ?_⟩
  · obtain ⟨c0, g1, g2⟩ := key id c hc
    obtain ⟨l, xs, q1, q2, q3⟩ := h.mem id c0 g1
    rcases g2 with rfl | ⟨rfl, rfl⟩
    · exact ⟨l, xs, q1, q2, q3⟩
    · refine ⟨l, xs, q1, ?_, q3⟩
      simp only [Rep] at q2
      obtain ⟨q2, _⟩ := q2
      simp only [Value.agg.injEq] at q2
      cases q2
      simp only [Rep, RepL]
      exact ⟨_, rfl, ⟨_, _, rfl, ⟨rfl, rfl⟩, rfl⟩, rfl⟩
  · obtain ⟨c0, g1, _⟩ := key id c h1
    obtain ⟨c0', g1', _⟩ := key id' c' h2
    exact h.inj id id' _ _ b n n' g1 g1' h3 h4
theorem SatM.part {P : Program} {g : FuncId} {args : List D} {a res : D} {ms' : List (Option D)} {news : List D} (h : SatM P g args [a, .agg [.v (.slice none 0 0)]] res ms' news) : SatM P g args [a, .v (.agg ⟨[.slice none 0 0]⟩)] res ms' news :=
  ⟨h.1, fun w vs l0 bs hbs hbl hgl hl hr => h.2 w vs l0 bs hbs hbl hgl hl.part hr⟩
end Go.V
namespace Go.Proofs.Ytcnenmcagkbppaa
open Go.V
end Go.Proofs.Ytcnenmcagkbppaa
/- Contracts: numbers for roofs that drip alike, both sides, continued. -/
set_option linter.unusedVariables false
set_option linter.unusedSimpArgs false
namespace Go.V
end Go.V
namespace Go.Proofs.Ytcnenmcagkbppaa
open Go.V
end Go.Proofs.Ytcnenmcagkbppaa
/- Contracts: numbers for roofs that drip alike; the cell upon which rain has to fall; both sides, and the laws. -/
set_option linter.unusedVariables false
set_option linter.unusedSimpArgs false
namespace Go.V
end Go.V
namespace Go.Proofs.Ytcnenmcagkbppaa
open Go.V
end Go.Proofs.Ytcnenmcagkbppaa
/- Plain words: years: visits that are needed, each of them; what has to be replaced; tiles that are too old. -/
set_option linter.unusedVariables false
set_option linter.unusedSimpArgs false
namespace Go.V
end Go.V
/- Contracts: a source of choices out of bytes; valid roofs, ages and rain that are drawn from it. -/
set_option linter.unusedVariables false
set_option linter.unusedSimpArgs false
namespace Go.V
/- Words for the walks of this text: their default arguments are tried where they are used. -/
theorem go_E12 {P Q : Prop} (k : Q) (h : P := by first | exact Nat.le_of_ble_eq_true rfl | exact rfl | decide | omega | (simp [splice]; done) | (constructor <;> omega) | (simp [splice]; omega)) : P ∧ Q := ⟨h, k⟩
theorem lk_E12 {α : Type} {o : Option α} {K : α → Prop} {x : α} (k : K x) (h : o = some x := by first | exact u8A (by omega) | exact u8A' (by omega) | exact gridN (by omega) (by omega) | exact roofN (by omega) (by omega) | exact placeA (by omega) | exact placeB (by omega) | exact placeA' (by omega) | exact placeB' (by omega)) : optK o K := optK_of h k
theorem sm_E12 {low : Bool} {P : Program} {g : FuncId} {args args' ms ms0 : List D} {res : D} {ms' : List (Option D)} {news : List D} (h : SatB low P g args ms res ms' news) (e : args' = args := by repeat (first | rfl | exact vfull (by first | (simp [splice]; done) | (simp [splice]; omega)) | exact rfull (by first | (simp [splice]; done) | (simp [splice]; omega)) | exact vplace (by simp; done) (by omega) | exact vsplice (by simp) (by simp) | refine ceq ?_ ?_ | refine Eq.trans (vsplice (by first | (simp; done) | (simp; omega)) (by first | (simp; done) | (simp; omega))) ?_)) (e2 : ms0 = ms := by repeat (first | rfl | exact vfull (by first | (simp [splice]; done) | (simp [splice]; omega)) | exact rfull (by first | (simp [splice]; done) | (simp [splice]; omega)) | exact vplace (by simp; done) (by omega) | exact vsplice (by simp) (by simp) | refine ceq ?_ ?_ | refine Eq.trans (vsplice (by first | (simp; done) | (simp; omega)) (by first | (simp; done) | (simp; omega))) ?_)) : SatB low P g args' ms0 res ms' news := SatB.of_eq h e e2
end Go.V
namespace Go.V
/-- Bytes. -/
@[irreducible] def u8C (xs : List Int) : List Value := xs.map (Value.int .u8)
theorem u8C_def (xs : List Int) : u8C xs = xs.map (Value.int .u8) := by unfold u8C; rfl
@[simp] theorem u8C_len (xs : List Int) : (u8C xs).length = xs.length := by simp [u8C_def]
def u8D (m : Bool) (xs : List Int) : D := .row m 1 (.v (.agg ⟨u8C xs⟩)) xs.length
def Bytes (xs : List Int) : Prop := ∀ i, i < xs.length → 0 ≤ ix xs i ∧ ix xs i ≤ 255
theorem u8N {xs : List Int} {i o : Nat} (ho : o = i) (h : i < xs.length) : nth (u8C xs) o = some (.int .u8 (ix xs i)) := by
  subst ho
  rw [nth_eq, u8C_def, List.getElem?_map]
  unfold ix
  rw [List.getD_eq_getElem?_getD]
  simp [h]
theorem u8A {xs : List Int} {i : Nat} (h : i < xs.length) : nth (u8C xs) (0 + (i : Int).toNat * 1) = some (.int .u8 (ix xs i)) := u8N (by simp) h
theorem u8A' {xs : List Int} {i : Nat} (h : i < xs.length) : nth (u8C xs) ((i : Int).toNat * 1) = some (.int .u8 (ix xs i)) := u8N (by simp) h
/-- The state of a source: how many were read, a number. -/
abbrev Sc := Nat × Int
def srcD (xs : List Int) (σ : Sc) : D := .agg [u8D false xs, .v (.int .i64 σ.1), .v (.int .u64 σ.2)]
def nxB (xs : List Int) (σ : Sc) : Int := if σ.1 < xs.length then ix xs σ.1 else 0
def nxS (xs : List Int) (σ : Sc) : Int := IntKind.u64.wrap (IntKind.u64.wrap (IntKind.u64.wrap (σ.2 * 6364136223846793005) + IntKind.u64.wrap (nxB xs σ)) + 1442695040888963407)
def andU (x : Int) : Int := IntKind.u64.wrap (BitVec.ofInt IntKind.u64.bits (x.fdiv (2 ^ (min 40 IntKind.u64.bits))) &&& BitVec.ofInt IntKind.u64.bits 255).toNat
def nxV (xs : List Int) (σ : Sc) : Int := if σ.1 + 1 ≤ xs.length then nxB xs σ else IntKind.i64.wrap (andU (nxS xs σ))
def nxt (xs : List Int) (σ : Sc) : Sc := (σ.1 + 1, nxS xs σ)
theorem andU_in (x : Int) : 0 ≤ andU x ∧ andU x ≤ 255 := by
  unfold andU
  generalize BitVec.ofInt IntKind.u64.bits (x.fdiv (2 ^ (min 40 IntKind.u64.bits))) = b
  have h : (b &&& BitVec.ofInt IntKind.u64.bits 255).toNat ≤ 255 := by
    rw [BitVec.toNat_and]
    have : (BitVec.ofInt IntKind.u64.bits 255).toNat = 255 := by decide
    rw [this]
    exact Nat.and_le_right
  generalize (b &&& BitVec.ofInt IntKind.u64.bits 255).toNat = n at h
  rw [wu64 (by omega) (by omega)]
  omega
theorem nxV_in {xs : List Int} (h : Bytes xs) (σ : Sc) : 0 ≤ nxV xs σ ∧ nxV xs σ ≤ 255 := by
  unfold nxV nxB
  have h2 := andU_in (nxS xs σ)
  split
  · rename_i h1
    rw [if_pos (by omega)]
    exact h _ (by omega)
  · rw [w64 (by omega) (by omega)]; exact h2
/-- One choice among n. -/
def pkV (xs : List Int) (n : Int) (σ : Sc) : Int := if n ≤ 1 then 0 else (nxV xs σ).tmod n
def pkS (xs : List Int) (n : Int) (σ : Sc) : Sc := if n ≤ 1 then σ else nxt xs σ
theorem pkV_in {xs : List Int} (h : Bytes xs) {n : Int} (hn : 1 ≤ n) (σ : Sc) : 0 ≤ pkV xs n σ ∧ pkV xs n σ < n := by
  unfold pkV
  have := nxV_in h σ
  split
  · omega
  · have e : (nxV xs σ).tmod n = nxV xs σ % n := Int.tmod_eq_emod_of_nonneg this.1
    rw [e]
    exact ⟨Int.emod_nonneg _ (by omega), Int.emod_lt_of_pos _ (by omega)⟩
theorem pkS_le (xs : List Int) (n : Int) (σ : Sc) : (pkS xs n σ).1 ≤ σ.1 + 1 := by
  unfold pkS nxt; split
  · omega
  · exact Nat.le_refl _
end Go.V
namespace Go.Proofs.Ytcnenmcagkbppaa
open Go.V
theorem l00From_satM (xs : List Int) : SatM Try.prog 32 [u8D false xs] [] (.ptr (0, 0, 0) 0) [] [srcD xs (0, 0)] := by
  refine satM_of_wp hMix tOk Try.func32 rfl rfl Try.ntmps32 rfl rfl Try.results32 (by kernel_rfl) ?_
  conv => whnf
  repeat (first | (refine go_E12 ?_; conv => whnf) | (refine lk_E12 ?_; conv => whnf))
  refine ⟨[(5, 0, 0)], _, rfl, rfl, rfl, ?_, ?_, rfl⟩
  · rfl
  ((repeat' (first | exact trivial | apply And.intro)) <;> (refine ⟨_, rfl, ?_⟩; first | rfl | (rfl)))
theorem next_satM (xs : List Int) (hx : Bytes xs) (hl : xs.length ≤ 4096) (σ : Sc) (hσ : σ.1 ≤ 1000000) : SatM Try.prog 83 [.ptr (lentId 0) 0] [srcD xs σ] (.v (.int .i64 (nxV xs σ))) [some (srcD xs (nxt xs σ))] [] := by
  have e1 : IntKind.i64.wrap ((σ.1 : Int) + 1) = ((σ.1 + 1 : Nat) : Int) := by rw [w64 (by omega) (by omega)]; omega
  refine satM_of_wp hMix tOk Try.func83 rfl rfl Try.ntmps83 rfl rfl Try.results83 (by kernel_rfl) ?_
  conv => whnf
  repeat (first | (refine go_E12 ?_; conv => whnf) | (refine lk_E12 ?_; conv => whnf))
  cases h1 : decide ((σ.1 : Int) < (xs.length : Int))
  · have h1' : ¬ σ.1 < xs.length := by simpa using h1
    have hb : nxB xs σ = 0 := by unfold nxB; rw [if_neg h1']
    conv => whnf
    repeat (first | (refine go_E12 ?_; conv => whnf) | (refine lk_E12 ?_; conv => whnf))
    rw [e1]
    rw [show decide (((σ.1 + 1 : Nat) : Int) ≤ (xs.length : Int)) = false by simp; omega]
    conv => whnf
    repeat (first | (refine go_E12 ?_; conv => whnf) | (refine lk_E12 ?_; conv => whnf))
    have ev : nxV xs σ = IntKind.i64.wrap (andU (nxS xs σ)) := by unfold nxV; rw [if_neg (by omega)]
    have es : nxS xs σ = IntKind.u64.wrap (IntKind.u64.wrap (IntKind.u64.wrap (σ.2 * 6364136223846793005) + IntKind.u64.wrap 0) + 1442695040888963407) := by unfold nxS; rw [hb]
    rw [ev]
    unfold nxt
    rw [es]
    refine ⟨[], _, rfl, rfl, rfl, ?_, ?_, rfl⟩
    · rfl
    ((repeat' (first | exact trivial | apply And.intro)) <;> (refine ⟨_, rfl, ?_⟩; first | rfl | (rfl)))
  have h1' : σ.1 < xs.length := by simpa using h1
  have hb : nxB xs σ = ix xs σ.1 := by unfold nxB; rw [if_pos h1']
  have hbx := hx _ h1'
  conv => whnf
  repeat (first | (refine go_E12 ?_; conv => whnf) | (refine lk_E12 ?_; conv => whnf))
  rw [e1, show IntKind.i64.wrap (ix xs σ.1) = ix xs σ.1 from w64 (by omega) (by omega)]
  rw [show decide (((σ.1 + 1 : Nat) : Int) ≤ (xs.length : Int)) = true by simp; omega]
  conv => whnf
  repeat (first | (refine go_E12 ?_; conv => whnf) | (refine lk_E12 ?_; conv => whnf))
  have ev : nxV xs σ = ix xs σ.1 := by unfold nxV; rw [if_pos (by omega), hb]
  have es : nxS xs σ = IntKind.u64.wrap (IntKind.u64.wrap (IntKind.u64.wrap (σ.2 * 6364136223846793005) + IntKind.u64.wrap (ix xs σ.1)) + 1442695040888963407) := by unfold nxS; rw [hb]
  rw [ev]
  unfold nxt
  rw [es]
  refine ⟨[], _, rfl, rfl, rfl, ?_, ?_, rfl⟩
  · rfl
  ((repeat' (first | exact trivial | apply And.intro)) <;> (refine ⟨_, rfl, ?_⟩; first | rfl | (rfl)))
theorem pick_satM (xs : List Int) (hx : Bytes xs) (hl : xs.length ≤ 4096) (n : Int) (hn : n ≤ 200) (σ : Sc) (hσ : σ.1 ≤ 1000000) : SatM Try.prog 33 [.ptr (lentId 0) 0, .v (.int .i64 n)] [srcD xs σ] (.v (.int .i64 (pkV xs n σ))) [some (srcD xs (pkS xs n σ))] [] := by
  refine satM_of_wp hMix tOk Try.func33 rfl rfl Try.ntmps33 rfl rfl Try.results33 (by kernel_rfl) ?_
  conv => whnf
  repeat (first | (refine go_E12 ?_; conv => whnf) | (refine lk_E12 ?_; conv => whnf))
  cases h1 : decide (n ≤ 1)
  case true =>
    have h1' : n ≤ 1 := by simpa using h1
    rw [show pkV xs n σ = 0 by unfold pkV; rw [if_pos h1'], show pkS xs n σ = σ by unfold pkS; rw [if_pos h1']]
    conv => whnf
    repeat (first | (refine go_E12 ?_; conv => whnf) | (refine lk_E12 ?_; conv => whnf))
    refine ⟨[], _, rfl, rfl, rfl, ?_, ?_, rfl⟩
    · rfl
    ((repeat' (first | exact trivial | apply And.intro)) <;> (refine ⟨_, rfl, ?_⟩; first | rfl | (rfl)))
  have h1' : ¬ n ≤ 1 := by simpa using h1
  have hne : n ≠ 0 := by omega
  rw [show pkV xs n σ = (nxV xs σ).tmod n by unfold pkV; rw [if_neg h1'], show pkS xs n σ = nxt xs σ by unfold pkS; rw [if_neg h1']]
  conv => whnf
  repeat (first | (refine go_E12 ?_; conv => whnf) | (refine lk_E12 ?_; conv => whnf))
  first | refine ⟨[(lentId 0)], _, _, _, _, _, _, _, _, rfl, rfl, rfl, rfl, (sm_E12 (next_satM xs hx hl σ hσ)), rfl, rfl, rfl, rfl, ?_⟩ | refine .inr ⟨[(lentId 0)], _, _, _, _, _, _, _, _, rfl, rfl, rfl, rfl, (sm_E12 (next_satM xs hx hl σ hσ)), rfl, rfl, rfl, rfl, ?_⟩ | refine ⟨[(lentId 0)], _, _, _, _, _, rfl, rfl, rfl, rfl, (sm_E12 (next_satM xs hx hl σ hσ)), rfl, rfl, ?_⟩
  conv => whnf
  repeat (first | (refine go_E12 ?_; conv => whnf) | (refine lk_E12 ?_; conv => whnf))
  rw [show decide (n > 200) = false by simp; omega]
  conv => whnf
  repeat (first | (refine go_E12 ?_; conv => whnf) | (refine lk_E12 ?_; conv => whnf))
  refine ⟨[], _, rfl, rfl, rfl, ?_, ?_, rfl⟩
  · rfl
  ((repeat' (first | exact trivial | apply And.intro)) <;> (refine ⟨_, rfl, ?_⟩; first | rfl | (rfl)))
theorem one_satM (xs : List Int) (hx : Bytes xs) (hl : xs.length ≤ 4096) (n : Int) (hn : n ≤ 200) (σ : Sc) (hσ : σ.1 ≤ 1000000) : SatM Try.prog 82 [.ptr (lentId 0) 0, .v (.int .i64 n)] [srcD xs σ] (.v (.bool (pkV xs n σ == 0))) [some (srcD xs (pkS xs n σ))] [] := by
  refine satM_of_wp hMix tOk Try.func82 rfl rfl Try.ntmps82 rfl rfl Try.results82 (by kernel_rfl) ?_
  conv => whnf
  repeat (first | (refine go_E12 ?_; conv => whnf) | (refine lk_E12 ?_; conv => whnf))
  first | refine ⟨[(lentId 0)], _, _, _, _, _, _, _, _, rfl, rfl, rfl, rfl, (sm_E12 (pick_satM xs hx hl n hn σ hσ)), rfl, rfl, rfl, rfl, ?_⟩ | refine .inr ⟨[(lentId 0)], _, _, _, _, _, _, _, _, rfl, rfl, rfl, rfl, (sm_E12 (pick_satM xs hx hl n hn σ hσ)), rfl, rfl, rfl, rfl, ?_⟩ | refine ⟨[(lentId 0)], _, _, _, _, _, rfl, rfl, rfl, rfl, (sm_E12 (pick_satM xs hx hl n hn σ hσ)), rfl, rfl, ?_⟩
  conv => whnf
  repeat (first | (refine go_E12 ?_; conv => whnf) | (refine lk_E12 ?_; conv => whnf))
  refine ⟨[], _, rfl, rfl, rfl, ?_, ?_, rfl⟩
  · rfl
  ((repeat' (first | exact trivial | apply And.intro)) <;> (refine ⟨_, rfl, ?_⟩; first | rfl | (rfl)))
end Go.Proofs.Ytcnenmcagkbppaa
/- Gutters that are drawn from bytes: plain words. -/
set_option linter.unusedVariables false
set_option linter.unusedSimpArgs false
namespace Go.V
def gwN (xs : List Int) : Int := 1 + pkV xs 9 (0, 0)
def gwS1 (xs : List Int) : Sc := pkS xs 9 (0, 0)
def gwD (xs : List Int) : Int := pkV xs 20 (gwS1 xs)
def gwS2 (xs : List Int) : Sc := pkS xs 20 (gwS1 xs)
/-- Heights, leaves, and the source, as far as some cell. -/
def gwH (xs : List Int) : Nat → (Nat → Int) × Nat × Sc
  | 0 => (fun _ => 0, 0, gwS2 xs)
  | k + 1 => (putW (gwH xs k).1 k (pkV xs 6 (gwH xs k).2.2), if pkV xs 6 (pkS xs 6 (gwH xs k).2.2) = 0 then (gwH xs k).2.1 ||| 2 ^ k else (gwH xs k).2.1, pkS xs 6 (pkS xs 6 (gwH xs k).2.2))
/-- Pipes, and the source, as far as some cell. -/
def gwP (xs : List Int) : Nat → List (Int × Int) × Sc
  | 0 => ([], (gwH xs (gwN xs).toNat).2.2)
  | k + 1 => if (gwP xs k).1.length < 4 then (if pkV xs 4 (gwP xs k).2 = 0 then ((gwP xs k).1 ++ [((k : Int), pkV xs 12 (pkS xs 4 (gwP xs k).2))], pkS xs 12 (pkS xs 4 (gwP xs k).2)) else ((gwP xs k).1, pkS xs 4 (gwP xs k).2)) else gwP xs k
def gwG (xs : List Int) : Gut := ⟨gwN xs, gwD xs, (gwH xs (gwN xs).toNat).1, ((gwH xs (gwN xs).toNat).2.1 : Nat), (gwP xs (gwN xs).toNat).1⟩
theorem gwN_in {xs : List Int} (h : Bytes xs) : 1 ≤ gwN xs ∧ gwN xs ≤ 9 := by
  have := pkV_in h (n := 9) (by omega) (0, 0)
  unfold gwN; omega
theorem gwD_in {xs : List Int} (h : Bytes xs) : 0 ≤ gwD xs ∧ gwD xs ≤ 19 := by
  have := pkV_in h (n := 20) (by omega) (gwS1 xs)
  unfold gwD; omega
theorem gwH_in {xs : List Int} (h : Bytes xs) : ∀ k, (∀ j, 0 ≤ (gwH xs k).1 j ∧ (gwH xs k).1 j ≤ 5) ∧ (∀ j, k ≤ j → (gwH xs k).1 j = 0) ∧ (gwH xs k).2.1 < 2 ^ k
  | 0 => ⟨fun j => by simp [gwH], fun j _ => rfl, by simp [gwH]⟩
  | k + 1 => by
    obtain ⟨h1, h2, h3⟩ := gwH_in h k
    have hp := pkV_in h (n := 6) (by omega) (gwH xs k).2.2
    have h4 : 2 ^ k < 2 ^ (k + 1) := Nat.pow_lt_pow_right (by omega) (by omega)
    refine ⟨fun j => ?_, fun j hj => ?_, ?_⟩
    · rw [gwH]; dsimp only; unfold putW
      split
      · omega
      · exact h1 j
    · rw [gwH]; dsimp only; unfold putW
      rw [if_neg (by omega)]
      exact h2 j (by omega)
    · rw [gwH]; dsimp only
      split
      · exact Nat.or_lt_two_pow (by omega) h4
      · omega
theorem gwP_in {xs : List Int} (h : Bytes xs) : ∀ k, (gwP xs k).1.length ≤ 4 ∧ (∀ q ∈ (gwP xs k).1, (0 ≤ q.1 ∧ q.1 < k) ∧ (0 ≤ q.2 ∧ q.2 ≤ 11)) ∧ (gwP xs k).1.Pairwise fun p q => p.1 < q.1
  | 0 => ⟨by simp [gwP], fun q hq => by simp [gwP] at hq, by simp [gwP]⟩
  | k + 1 => by
    obtain ⟨h1, h2, h3⟩ := gwP_in h k
    have hp := pkV_in h (n := 12) (by omega) (pkS xs 4 (gwP xs k).2)
    rw [gwP]
    have old : ∀ q ∈ (gwP xs k).1, (0 ≤ q.1 ∧ q.1 < ((k + 1 : Nat) : Int)) ∧ (0 ≤ q.2 ∧ q.2 ≤ 11) := fun q hq => by
      have := h2 q hq
      exact ⟨⟨this.1.1, by omega⟩, this.2⟩
    split
    · split
      · refine ⟨by simp; omega, fun q hq => ?_, ?_⟩
        · rcases List.mem_append.1 hq with hq | hq
          · exact old q hq
          · rw [List.mem_singleton] at hq
            subst hq
            exact ⟨⟨by show (0 : Int) ≤ (k : Int); omega, by show (k : Int) < ((k + 1 : Nat) : Int); omega⟩, by dsimp only; omega⟩
        · dsimp only
          rw [List.pairwise_append]
          refine ⟨h3, by simp, fun p hp q hq => ?_⟩
          rw [List.mem_singleton] at hq
          subst hq
          exact (h2 p hp).1.2
      · exact ⟨h1, old, h3⟩
    · exact ⟨h1, old, h3⟩
theorem gwG_ok {xs : List Int} (h : Bytes xs) : okG (gwG xs) = true ∧ (gwG xs).In ∧ (gwG xs).n ≤ 9 := by
  have hn := gwN_in h
  have hd := gwD_in h
  obtain ⟨a1, a2, a3⟩ := gwH_in h (gwN xs).toNat
  obtain ⟨b1, b2, b3⟩ := gwP_in h (gwN xs).toNat
  have hpow : 2 ^ (gwN xs).toNat ≤ 2 ^ 9 := Nat.pow_le_pow_right (by omega) (by omega)
  have hpx : ∀ i, i < (gwP xs (gwN xs).toNat).1.length → px (gwP xs (gwN xs).toNat).1 i ∈ (gwP xs (gwN xs).toNat).1 := fun i hi => by
    unfold px
    rw [List.getD_eq_getElem?_getD, List.getElem?_eq_getElem hi]
    exact List.getElem_mem hi
  have hps : ∀ i, i < (gwP xs (gwN xs).toNat).1.length → (0 ≤ (px (gwP xs (gwN xs).toNat).1 i).1 ∧ (px (gwP xs (gwN xs).toNat).1 i).1 < gwN xs) ∧ (0 ≤ (px (gwP xs (gwN xs).toNat).1 i).2 ∧ (px (gwP xs (gwN xs).toNat).1 i).2 ≤ 11) := fun i hi => by
    have := b2 _ (hpx i hi)
    exact ⟨⟨this.1.1, by omega⟩, this.2⟩
  refine ⟨?_, ?_, hn.2⟩
  · unfold okG
    simp only [Bool.and_eq_true]
    refine ⟨⟨?_, ?_⟩, ?_⟩
    · unfold okG0 gwG deepB
      simp only [Bool.and_eq_true, decide_eq_true_eq, beq_iff_eq]
      refine ⟨⟨⟨by omega, by omega⟩, ?_⟩, b1⟩
      rw [show min (gwN xs).toNat IntKind.u32.bits = (gwN xs).toNat from Nat.min_eq_left (by show (gwN xs).toNat ≤ 32; omega), Int.fdiv_eq_ediv_of_nonneg _ (by exact Int.le_of_lt (Int.pow_pos (by omega)))]
      have e : (((gwH xs (gwN xs).toNat).2.1 : Nat) : Int) / 2 ^ (gwN xs).toNat = (((gwH xs (gwN xs).toNat).2.1 / 2 ^ (gwN xs).toNat : Nat) : Int) := by push_cast; rfl
      rw [e, Nat.div_eq_of_lt a3]; rfl
    · rw [allN_iff]
      intro k hk
      unfold hOk gwG
      simp only [Bool.and_eq_true, Bool.or_eq_true, decide_eq_true_eq, beq_iff_eq]
      have := a1 k
      refine ⟨by omega, ?_⟩
      by_cases hkn : (k : Int) < gwN xs
      · exact .inl hkn
      · exact .inr (a2 k (by omega))
    · rw [allN_iff]
      intro i hi
      have hi' : i < (gwP xs (gwN xs).toNat).1.length := hi
      have hp := hps i hi'
      unfold pOk
      show (((decide (0 ≤ (px (gwP xs (gwN xs).toNat).1 i).1) && decide ((px (gwP xs (gwN xs).toNat).1 i).1 ≤ gwN xs - 1)) && deepB (px (gwP xs (gwN xs).toNat).1 i).2) && (i == 0 || decide ((px (gwP xs (gwN xs).toNat).1 (i - 1)).1 < (px (gwP xs (gwN xs).toNat).1 i).1))) = true
      unfold deepB
      simp only [Bool.and_eq_true, Bool.or_eq_true, decide_eq_true_eq, beq_iff_eq]
      refine ⟨by omega, ?_⟩
      by_cases h0 : i = 0
      · exact .inl h0
      · right
        rw [List.pairwise_iff_getElem] at b3
        have := b3 (i - 1) i (by omega) hi' (by omega)
        unfold px
        simpa [List.getD_eq_getElem?_getD, List.getElem?_eq_getElem hi', List.getElem?_eq_getElem (show i - 1 < (gwP xs (gwN xs).toNat).1.length by omega)] using this
  · refine ⟨by show -128 ≤ gwN xs ∧ gwN xs ≤ 127; omega, by show -32768 ≤ gwD xs ∧ gwD xs ≤ 32767; omega, fun k => ?_, ?_, fun i hi => ?_, ?_⟩
    · have := a1 k
      show -128 ≤ (gwH xs (gwN xs).toNat).1 k ∧ (gwH xs (gwN xs).toNat).1 k ≤ 127
      omega
    · show (0 : Int) ≤ ((gwH xs (gwN xs).toNat).2.1 : Nat) ∧ (((gwH xs (gwN xs).toNat).2.1 : Nat) : Int) ≤ 4294967295
      omega
    · have := hps i hi
      show (-128 ≤ (px (gwP xs (gwN xs).toNat).1 i).1 ∧ (px (gwP xs (gwN xs).toNat).1 i).1 ≤ 127) ∧ (-32768 ≤ (px (gwP xs (gwN xs).toNat).1 i).2 ∧ (px (gwP xs (gwN xs).toNat).1 i).2 ≤ 32767)
      omega
    · show (gwP xs (gwN xs).toNat).1.length ≤ 9223372036854775807
      omega
end Go.V
/- Contracts: valid roofs, ages and rain that are drawn from bytes. -/
set_option linter.unusedVariables false
set_option linter.unusedSimpArgs false
namespace Go.V
def s0 : Sc := (0, 0)
end Go.V
namespace Go.Proofs.Ytcnenmcagkbppaa
open Go.V
end Go.Proofs.Ytcnenmcagkbppaa
/- Gutters that are drawn from bytes: contracts. -/
set_option linter.unusedVariables false
set_option linter.unusedSimpArgs false
set_option maxRecDepth 4000
namespace Go.V
/- Words for the walks of this text: their default arguments are tried where they are used. -/
theorem go_E26 {P Q : Prop} (k : Q) (h : P := by first | exact Nat.le_of_ble_eq_true rfl | exact trivial | exact rfl | decide | omega | (simp [splice]; done) | (constructor <;> omega) | (simp [splice]; omega)) : P ∧ Q := ⟨h, k⟩
theorem lk_E26 {α : Type} {o : Option α} {K : α → Prop} {x : α} (k : K x) (h : o = some x := by first | exact u8A (by omega) | exact u8A' (by omega) | exact hDA (by omega) | exact hDA' (by omega) | exact gutA (by omega) | exact pipeA (by omega) | exact pipeB (by omega) | exact pipeSA (by omega) | exact pipeSB (by omega) | exact intA (by omega) | exact intA' (by omega)) : optK o K := optK_of h k
theorem sm_E26 {low : Bool} {P : Program} {g : FuncId} {args args' ms ms0 : List D} {res : D} {ms' : List (Option D)} {news : List D} (h : SatB low P g args ms res ms' news) (e : args' = args := by repeat (first | rfl | exact vfull (by first | (simp [splice]; done) | (simp [splice]; omega)) | exact rfull (by first | (simp [splice]; done) | (simp [splice]; omega)) | exact vpipe (by simp; done) (by omega) | exact vsplice (by simp) (by simp) | refine ceq ?_ ?_ | refine Eq.trans (vsplice (by first | (simp; done) | (simp; omega)) (by first | (simp; done) | (simp; omega))) ?_)) (e2 : ms0 = ms := by repeat (first | rfl | exact vfull (by first | (simp [splice]; done) | (simp [splice]; omega)) | exact rfull (by first | (simp [splice]; done) | (simp [splice]; omega)) | exact vpipe (by simp; done) (by omega) | exact vsplice (by simp) (by simp) | refine ceq ?_ ?_ | refine Eq.trans (vsplice (by first | (simp; done) | (simp; omega)) (by first | (simp; done) | (simp; omega))) ?_)) : SatB low P g args' ms0 res ms' news := SatB.of_eq h e e2
theorem leaf_E26 {P : Prop} (h : P := by first | rfl | exact succ8 (by omega) | exact succ64 (by omega) | exact CapOk.fn (by assumption) _ _ | exact vintS (by omega) | exact vintS (by rw [w64 (by omega) (by omega)]; omega) | exact vintS (by rw [w8 (by omega) (by omega)]; omega) | exact vslcS (by omega) | exact vslcS (by simp)) : P := h
theorem hold_E26 {P : Prop} (h : P := by (repeat' (first | exact trivial | apply And.intro)) <;> (first | rfl | exact succ8 (by omega) | exact succ64 (by omega) | exact CapOk.fn (by assumption) _ _ | exact vintS (by omega) | exact vintS (by rw [w64 (by omega) (by omega)]; omega) | exact vintS (by rw [w8 (by omega) (by omega)]; omega) | exact vslcS (by omega) | exact vslcS (by simp))) : P := h
theorem okt_E26 {P : Prop} (h : P := by first | omega | (dsimp only; omega) | ((repeat' apply And.intro) <;> omega) | (dsimp only; (repeat' apply And.intro) <;> omega) | trivial) : P := h
end Go.V
namespace Go.V
/-- The rain that is drawn. -/
def flM (ys : List Int) : Int := 1 + pkV ys 5 s0
def flS (ys : List Int) : Nat → Sc
  | 0 => pkS ys 5 s0
  | k + 1 => pkS ys (flM ys) (flS ys k)
def flR (ys : List Int) (k : Nat) : List Int := (List.range k).map fun i => pkV ys (flM ys) (flS ys i)
theorem flR_snoc (ys : List Int) (k : Nat) : flR ys (k + 1) = flR ys k ++ [pkV ys (flM ys) (flS ys k)] := by unfold flR; rw [List.range_succ, List.map_append]; rfl
theorem flR_len (ys : List Int) (k : Nat) : (flR ys k).length = k := by unfold flR; simp
theorem flS_at (ys : List Int) : ∀ k, (flS ys k).1 ≤ k + 1
  | 0 => by have := pkS_le ys 5 s0; exact this
  | k + 1 => by
    have := flS_at ys k
    have h2 := pkS_le ys (flM ys) (flS ys k)
    rw [flS]; omega
theorem flM_in {ys : List Int} (h : Bytes ys) : 1 ≤ flM ys ∧ flM ys ≤ 5 := by
  have := pkV_in h (n := 5) (by omega) s0
  unfold flM; omega
theorem flR_ok {ys : List Int} (h : Bytes ys) {g : Gut} (hn : 0 ≤ g.n) : rainB g (flR ys g.n.toNat) = true := by
  have hm := flM_in h
  unfold rainB
  rw [Bool.and_eq_true, List.all_eq_true]
  refine ⟨by rw [flR_len]; simp; omega, fun i hi => ?_⟩
  rw [List.mem_range, flR_len] at hi
  have e : ix (flR ys g.n.toNat) i = pkV ys (flM ys) (flS ys i) := by
    unfold ix flR
    rw [List.getD_eq_getElem?_getD, List.getElem?_map, List.getElem?_range hi]; rfl
  have := pkV_in h (n := flM ys) (by omega) (flS ys i)
  rw [e]; unfold deepB; simp; omega
end Go.V
namespace Go.Proofs.Ytcnenmcagkbppaa
open Go.V
theorem p6Pick_sat (xs : List Int) (hx : Bytes xs) (hl : xs.length ≤ 4096) (n : Int) (hn : n ≤ 200) (m : Bool) : Sat Try.prog 22 [u8D m xs, .v (.int .i64 n)] (.v (.int .i64 (pkV xs n s0))) := by
  refine sat_of_wp hMix tOk Try.func22 rfl rfl Try.ntmps22 rfl rfl Try.results22 (by kernel_rfl) ?_
  conv => whnf
  repeat (first | (refine go_E26 ?_; conv => whnf) | (refine lk_E26 ?_; conv => whnf))
  first | refine ⟨[], _, _, _, _, _, _, _, _, rfl, rfl, rfl, rfl, (sm_E26 (l00From_satM xs)), rfl, rfl, rfl, rfl, ?_⟩ | refine .inr ⟨[], _, _, _, _, _, _, _, _, rfl, rfl, rfl, rfl, (sm_E26 (l00From_satM xs)), rfl, rfl, rfl, rfl, ?_⟩ | refine ⟨[], _, _, _, _, _, rfl, rfl, rfl, rfl, (sm_E26 (l00From_satM xs)), rfl, rfl, ?_⟩
  conv => whnf
  repeat (first | (refine go_E26 ?_; conv => whnf) | (refine lk_E26 ?_; conv => whnf))
  first | refine ⟨[(6, 0, 0)], _, _, _, _, _, _, _, _, rfl, rfl, rfl, rfl, (sm_E26 (pick_satM xs hx hl n hn s0 (by show 0 ≤ 1000000; omega))), rfl, rfl, rfl, rfl, ?_⟩ | refine .inr ⟨[(6, 0, 0)], _, _, _, _, _, _, _, _, rfl, rfl, rfl, rfl, (sm_E26 (pick_satM xs hx hl n hn s0 (by show 0 ≤ 1000000; omega))), rfl, rfl, rfl, rfl, ?_⟩ | refine ⟨[(6, 0, 0)], _, _, _, _, _, rfl, rfl, rfl, rfl, (sm_E26 (pick_satM xs hx hl n hn s0 (by show 0 ≤ 1000000; omega))), rfl, rfl, ?_⟩
  conv => whnf
  repeat (first | (refine go_E26 ?_; conv => whnf) | (refine lk_E26 ?_; conv => whnf))
  first | refine ⟨rfl, _, rfl, ?_⟩ | refine ⟨_, rfl, ?_⟩
  rfl
theorem p6Falls_sat (ys : List Int) (hy : Bytes ys) (hl : ys.length ≤ 4096) (g : Gut) (ho : g.Ok) (m : Bool) : Sat Try.prog 6 [u8D m ys, gutD false g] (intsD true (flR ys g.n.toNat)) := by
  have hn := ho.n
  have hm := flM_in hy
  have hp := pkV_in hy (n := 5) (by omega) s0
  refine sat_of_wp hMix tOk Try.func6 rfl rfl Try.ntmps6 rfl rfl Try.results6 (by kernel_rfl) ?_
  conv => whnf
  repeat (first | (refine go_E26 ?_; conv => whnf) | (refine lk_E26 ?_; conv => whnf))
  first | refine ⟨[], _, _, _, _, _, _, _, _, rfl, rfl, rfl, rfl, (sm_E26 (l00From_satM ys)), rfl, rfl, rfl, rfl, ?_⟩ | refine .inr ⟨[], _, _, _, _, _, _, _, _, rfl, rfl, rfl, rfl, (sm_E26 (l00From_satM ys)), rfl, rfl, rfl, rfl, ?_⟩ | refine ⟨[], _, _, _, _, _, rfl, rfl, rfl, rfl, (sm_E26 (l00From_satM ys)), rfl, rfl, ?_⟩
  conv => whnf
  repeat (first | (refine go_E26 ?_; conv => whnf) | (refine lk_E26 ?_; conv => whnf))
  first | refine ⟨[(10, 0, 0)], _, _, _, _, _, _, _, _, rfl, rfl, rfl, rfl, (sm_E26 (pick_satM ys hy hl 5 (by omega) s0 (by show 0 ≤ 1000000; omega))), rfl, rfl, rfl, rfl, ?_⟩ | refine .inr ⟨[(10, 0, 0)], _, _, _, _, _, _, _, _, rfl, rfl, rfl, rfl, (sm_E26 (pick_satM ys hy hl 5 (by omega) s0 (by show 0 ≤ 1000000; omega))), rfl, rfl, rfl, rfl, ?_⟩ | refine ⟨[(10, 0, 0)], _, _, _, _, _, rfl, rfl, rfl, rfl, (sm_E26 (pick_satM ys hy hl 5 (by omega) s0 (by show 0 ≤ 1000000; omega))), rfl, rfl, ?_⟩
  conv => whnf
  repeat (first | (refine go_E26 ?_; conv => whnf) | (refine lk_E26 ?_; conv => whnf))
  rw [show IntKind.i64.wrap (1 + pkV ys 5 s0) = flM ys by rw [w64 (by omega) (by omega)]; rfl]
  refine loop_rule (α := Nat) (fun k => [(3, .ptr (3, 0, 0) 0), (5, .ptr (10, 0, 0) 0), (6, .slc true 1 (26, 0, 0) 0 (flR ys k).length), (7, .v (.int .i64 (flM ys))), (8, .v (.int .i8 k))]) (fun k => [((3, 0, 0), gutD false g), ((10, 0, 0), srcD ys (flS ys k)), ((26, 0, 0), .v (.agg ⟨intsC (flR ys k)⟩))]) (fun k => k ≤ g.n.toNat) (fun k => g.n.toNat - k) (0) ?_ (sim_of (rn := [((3, 0, 0), (3, 0, 0)), ((10, 0, 0), (10, 0, 0)), ((26, 0, 0), (11, 0, 0))]) rfl ?_ ?_) ?_
  · exact okt_E26
  · exact hold_E26
  · ((repeat' (first | exact trivial | apply And.intro)) <;> ((first | refine ⟨_, _, rfl, rfl, ?_⟩ ); first | rfl | (exact cset (show [] = intsC [] from intsC_nil.symm))))
  intro k hk
  have hll := flR_len ys k
  have hat := flS_at ys k
  conv => whnf
  repeat (first | (refine go_E26 ?_; conv => whnf) | (refine lk_E26 ?_; conv => whnf))
  cases h : decide ((k : Int) < g.n)
  · have hkn : k = g.n.toNat := by simp at h; omega
    subst hkn
    conv => whnf
    repeat (first | (refine go_E26 ?_; conv => whnf) | (refine lk_E26 ?_; conv => whnf))
    first | refine ⟨rfl, _, rfl, ?_⟩ | refine ⟨_, rfl, ?_⟩
    rfl
  have hkn : (k : Int) < g.n := by simpa using h
  have e2 : intsC (flR ys k) ++ [.int .i64 (pkV ys (flM ys) (flS ys k))] = intsC (flR ys (k + 1)) := by rw [flR_snoc, intsC_append, intsC_one]
  have e3 : (flR ys (k + 1)).length = (flR ys k).length + 1 := by rw [flR_snoc]; simp
  conv => whnf
  repeat (first | (refine go_E26 ?_; conv => whnf) | (refine lk_E26 ?_; conv => whnf))
  first | refine ⟨[(10, 0, 0)], _, _, _, _, _, _, _, _, rfl, rfl, rfl, rfl, (sm_E26 (pick_satM ys hy hl (flM ys) (by omega) (flS ys k) (by omega))), rfl, rfl, rfl, rfl, ?_⟩ | refine .inr ⟨[(10, 0, 0)], _, _, _, _, _, _, _, _, rfl, rfl, rfl, rfl, (sm_E26 (pick_satM ys hy hl (flM ys) (by omega) (flS ys k) (by omega))), rfl, rfl, rfl, rfl, ?_⟩ | refine ⟨[(10, 0, 0)], _, _, _, _, _, rfl, rfl, rfl, rfl, (sm_E26 (pick_satM ys hy hl (flM ys) (by omega) (flS ys k) (by omega))), rfl, rfl, ?_⟩
  conv => whnf
  repeat (first | (refine go_E26 ?_; conv => whnf) | (refine lk_E26 ?_; conv => whnf))
  refine ⟨k + 1, ?_, ?_, sim_of (rn := [((3, 0, 0), (3, 0, 0)), ((10, 0, 0), (10, 0, 0)), ((26, 0, 0), (26, 1, 0))]) rfl ?_ ?_⟩
  · (dsimp only; omega)
  · exact okt_E26
  · ((repeat' (first | exact trivial | apply And.intro)) <;> (first | rfl | (exact vslcS e3) | exact leaf_E26))
  · ((repeat' (first | exact trivial | apply And.intro)) <;> ((first | refine ⟨_, _, rfl, rfl, ?_⟩ ); first | rfl | (exact cset e2)))
end Go.Proofs.Ytcnenmcagkbppaa
/- Contracts: what the laws ask of lists, of places and of roofs. -/
set_option linter.unusedVariables false
set_option linter.unusedSimpArgs false
namespace Go.V
/- Words for the walks of this text: their default arguments are tried where they are used. -/
theorem go_E14 {P Q : Prop} (k : Q) (h : P := by first | exact Nat.le_of_ble_eq_true rfl | exact trivial | exact rfl | decide | omega | (simp [splice]; done) | (constructor <;> omega) | (simp [splice]; omega)) : P ∧ Q := ⟨h, k⟩
theorem lk_E14 {α : Type} {o : Option α} {K : α → Prop} {x : α} (k : K x) (h : o = some x := by first | exact u8A (by omega) | exact u8A' (by omega) | exact intA (by omega) | exact intA' (by omega)) : optK o K := optK_of h k
theorem hold_E14 {P : Prop} (h : P := by (repeat' (first | exact trivial | apply And.intro)) <;> (first | rfl | exact succ8 (by omega) | exact succ64 (by omega) | exact CapOk.fn (by assumption) _ _ | exact vintS (by omega) | exact vintS (by rw [w64 (by omega) (by omega)]; omega) | exact vintS (by rw [w8 (by omega) (by omega)]; omega) | exact vslcS (by omega) | exact vslcS (by simp))) : P := h
theorem okt_E14 {P : Prop} (h : P := by first | omega | (dsimp only; omega) | ((repeat' apply And.intro) <;> omega) | (dsimp only; (repeat' apply And.intro) <;> omega) | trivial) : P := h
end Go.V
namespace Go.V
end Go.V
namespace Go.Proofs.Ytcnenmcagkbppaa
open Go.V
theorem l00Same_sat (xs : List Int) (hl : xs.length ≤ 1048576) (m m' : Bool) : Sat Try.prog 48 [intsD m xs, intsD m' xs] (.v (.bool true)) := by
  refine sat_of_wp hMix tOk Try.func48 rfl rfl Try.ntmps48 rfl rfl Try.results48 (by kernel_rfl) ?_
  conv => whnf
  repeat (first | (refine go_E14 ?_; conv => whnf) | (refine lk_E14 ?_; conv => whnf))
  rw [show ((xs.length : Int) != (xs.length : Int)) = false by simp]
  conv => whnf
  repeat (first | (refine go_E14 ?_; conv => whnf) | (refine lk_E14 ?_; conv => whnf))
  refine loop_rule (α := Nat) (fun i => [(0, intsD m xs), (1, intsD m' xs), (5, .v (.int .i64 i))]) (fun i => []) (fun i => i ≤ xs.length) (fun i => xs.length - i) (0) ?_ (sim_of (rn := []) rfl ?_ ?_) ?_
  · exact okt_E14
  · exact hold_E14
  · ((repeat' (first | exact trivial | apply And.intro)) <;> ((first | refine ⟨_, _, rfl, rfl, ?_⟩ ); rfl))
  intro i hi
  conv => whnf
  repeat (first | (refine go_E14 ?_; conv => whnf) | (refine lk_E14 ?_; conv => whnf))
  cases h : decide ((i : Int) < (xs.length : Int))
  · conv => whnf
    repeat (first | (refine go_E14 ?_; conv => whnf) | (refine lk_E14 ?_; conv => whnf))
    first | refine ⟨rfl, _, rfl, ?_⟩ | refine ⟨_, rfl, ?_⟩
    rfl
  have hin : i < xs.length := by simpa using h
  conv => whnf
  repeat (first | (refine go_E14 ?_; conv => whnf) | (refine lk_E14 ?_; conv => whnf))
  rw [show (ix xs i != ix xs i) = false by simp]
  conv => whnf
  repeat (first | (refine go_E14 ?_; conv => whnf) | (refine lk_E14 ?_; conv => whnf))
  refine ⟨i + 1, ?_, ?_, sim_of (rn := []) rfl ?_ ?_⟩
  · (dsimp only; omega)
  · exact okt_E14
  · exact hold_E14
  · ((repeat' (first | exact trivial | apply And.intro)) <;> ((first | refine ⟨_, _, rfl, rfl, ?_⟩ ); rfl))
end Go.Proofs.Ytcnenmcagkbppaa
/- Numbers and gutters compared: contracts for the law on pipes; the least that a pipe takes. -/
set_option linter.unusedVariables false
set_option linter.unusedSimpArgs false
set_option maxRecDepth 4000
namespace Go.V
/- Words for the walks of this text: their default arguments are tried where they are used. -/
theorem go_E27 {P Q : Prop} (k : Q) (h : P := by first | exact Nat.le_of_ble_eq_true rfl | exact trivial | exact rfl | decide | omega | (simp [splice]; done) | (constructor <;> omega) | (simp [splice]; omega)) : P ∧ Q := ⟨h, k⟩
theorem lk_E27 {α : Type} {o : Option α} {K : α → Prop} {x : α} (k : K x) (h : o = some x := by first | exact u8A (by omega) | exact u8A' (by omega) | exact hDA (by omega) | exact hDA' (by omega) | exact gutA (by omega) | exact pipeA (by omega) | exact pipeB (by omega) | exact pipeSA (by omega) | exact pipeSB (by omega) | exact intA (by omega) | exact intA' (by omega)) : optK o K := optK_of h k
theorem sc_E27 {P : Program} {g : FuncId} {args args' : List D} {res : D} (h : Sat P g args res) (e : args' = args := by repeat (first | rfl | exact vfull (by first | (simp [splice]; done) | (simp [splice]; omega)) | exact rfull (by first | (simp [splice]; done) | (simp [splice]; omega)) | exact vpipe (by simp; done) (by omega) | exact vsplice (by simp) (by simp) | refine ceq ?_ ?_ | refine Eq.trans (vsplice (by first | (simp; done) | (simp; omega)) (by first | (simp; done) | (simp; omega))) ?_)) : Sat P g args' res := Sat.of_eq h e
theorem hold_E27 {P : Prop} (h : P := by (repeat' (first | exact trivial | apply And.intro)) <;> (first | rfl | exact succ8 (by omega) | exact succ64 (by omega) | exact CapOk.fn (by assumption) _ _ | exact vintS (by omega) | exact vintS (by rw [w64 (by omega) (by omega)]; omega) | exact vintS (by rw [w8 (by omega) (by omega)]; omega) | exact vslcS (by omega) | exact vslcS (by simp))) : P := h
end Go.V
namespace Go.Proofs.Ytcnenmcagkbppaa
open Go.V
theorem sameNumbers_sat (xs : List Int) (hl : xs.length ≤ 1048576) (m m' : Bool) : Sat Try.prog 13 [intsD m xs, intsD m' xs] (.v (.bool true)) := by
  refine sat_of_wp hMix tOk Try.func13 rfl rfl Try.ntmps13 rfl rfl Try.results13 (by kernel_rfl) ?_
  conv => whnf
  repeat (first | (refine go_E27 ?_; conv => whnf) | (refine lk_E27 ?_; conv => whnf))
  first | refine ⟨_, _, rfl, sc_E27 (l00Same_sat xs hl false false), ?_⟩ | refine .inl ⟨_, _, rfl, sc_E27 (l00Same_sat xs hl false false), ?_⟩
  conv => whnf
  repeat (first | (refine go_E27 ?_; conv => whnf) | (refine lk_E27 ?_; conv => whnf))
  first | refine ⟨rfl, _, rfl, ?_⟩ | refine ⟨_, rfl, ?_⟩
  rfl
theorem l00Has_sat (xs : List Int) (hl : xs.length ≤ 1048576) (v : Int) (m : Bool) : Sat Try.prog 54 [intsD m xs, .v (.int .i64 v)] (.v (.bool ((List.range xs.length).any fun i => ix xs i == v))) := by
  refine sat_of_wp hMix tOk Try.func54 rfl rfl Try.ntmps54 rfl rfl Try.results54 (by kernel_rfl) ?_
  conv => whnf
  repeat (first | (refine go_E27 ?_; conv => whnf) | (refine lk_E27 ?_; conv => whnf))
  refine loop_rule (α := Nat) (fun i => [(0, intsD m xs), (1, .v (.int .i64 v)), (5, .v (.int .i64 i))]) (fun i => []) (fun i => i ≤ xs.length ∧ ∀ j, j < i → (ix xs j == v) = false) (fun i => xs.length - i) (0) ?_ (sim_of (rn := []) rfl ?_ ?_) ?_
  · exact ⟨by omega, fun j hj => by omega⟩
  · exact hold_E27
  · ((repeat' (first | exact trivial | apply And.intro)) <;> ((first | refine ⟨_, _, rfl, rfl, ?_⟩ ); rfl))
  rintro i ⟨hi, hall⟩
  conv => whnf
  repeat (first | (refine go_E27 ?_; conv => whnf) | (refine lk_E27 ?_; conv => whnf))
  cases h : decide ((i : Int) < (xs.length : Int))
  · have hin : i = xs.length := by simp at h; omega
    subst hin
    rw [anyN_none hall]
    conv => whnf
    repeat (first | (refine go_E27 ?_; conv => whnf) | (refine lk_E27 ?_; conv => whnf))
    first | refine ⟨rfl, _, rfl, ?_⟩ | refine ⟨_, rfl, ?_⟩
    rfl
  have hin : i < xs.length := by simpa using h
  have hs := fun h => anyN_some (p := fun i => ix xs i == v) hin h
  have nxt := fun h => below_succ (p := fun j => (ix xs j == v) = false) hall h
  conv => whnf
  repeat (first | (refine go_E27 ?_; conv => whnf) | (refine lk_E27 ?_; conv => whnf))
  cases h2 : (ix xs i == v)
  · conv => whnf
    repeat (first | (refine go_E27 ?_; conv => whnf) | (refine lk_E27 ?_; conv => whnf))
    refine ⟨i + 1, ?_, ?_, sim_of (rn := []) rfl ?_ ?_⟩
    · (dsimp only; omega)
    · exact ⟨by omega, nxt h2⟩
    · exact hold_E27
    · ((repeat' (first | exact trivial | apply And.intro)) <;> ((first | refine ⟨_, _, rfl, rfl, ?_⟩ ); rfl))
  rw [hs h2]
  conv => whnf
  repeat (first | (refine go_E27 ?_; conv => whnf) | (refine lk_E27 ?_; conv => whnf))
  first | refine ⟨rfl, _, rfl, ?_⟩ | refine ⟨_, rfl, ?_⟩
  rfl
theorem hasNumber_sat (xs : List Int) (hl : xs.length ≤ 1048576) (v : Int) (m : Bool) : Sat Try.prog 18 [intsD m xs, .v (.int .i64 v)] (.v (.bool ((List.range xs.length).any fun i => ix xs i == v))) := by
  refine sat_of_wp hMix tOk Try.func18 rfl rfl Try.ntmps18 rfl rfl Try.results18 (by kernel_rfl) ?_
  conv => whnf
  repeat (first | (refine go_E27 ?_; conv => whnf) | (refine lk_E27 ?_; conv => whnf))
  first | refine ⟨_, _, rfl, sc_E27 (l00Has_sat xs hl v false), ?_⟩ | refine .inl ⟨_, _, rfl, sc_E27 (l00Has_sat xs hl v false), ?_⟩
  conv => whnf
  repeat (first | (refine go_E27 ?_; conv => whnf) | (refine lk_E27 ?_; conv => whnf))
  first | refine ⟨rfl, _, rfl, ?_⟩ | refine ⟨_, rfl, ?_⟩
  rfl
end Go.Proofs.Ytcnenmcagkbppaa
/- The cells of a gutter, one by one: plain words for SlopeTo and the draw. -/
set_option linter.unusedVariables false
set_option linter.unusedSimpArgs false
set_option maxRecDepth 4000
namespace Go.V
/- Words for the walks of this text: their default arguments are tried where they are used. -/
theorem go_E28 {P Q : Prop} (k : Q) (h : P := by first | exact Nat.le_of_ble_eq_true rfl | exact trivial | exact rfl | decide | omega | (simp [splice]; done) | (constructor <;> omega) | (simp [splice]; omega)) : P ∧ Q := ⟨h, k⟩
theorem lk_E28 {α : Type} {o : Option α} {K : α → Prop} {x : α} (k : K x) (h : o = some x := by first | exact hDA (by omega) | exact hDA' (by omega) | exact gutA (by omega) | exact pipeA (by omega) | exact pipeB (by omega) | exact pipeSA (by omega) | exact pipeSB (by omega) | exact intA (by omega) | exact intA' (by omega)) : optK o K := optK_of h k
theorem sc_E28 {P : Program} {g : FuncId} {args args' : List D} {res : D} (h : Sat P g args res) (e : args' = args := by repeat (first | rfl | exact vfull (by first | (simp [splice]; done) | (simp [splice]; omega)) | exact rfull (by first | (simp [splice]; done) | (simp [splice]; omega)) | exact vpipe (by simp; done) (by omega) | exact vsplice (by simp) (by simp) | refine ceq ?_ ?_ | refine Eq.trans (vsplice (by first | (simp; done) | (simp; omega)) (by first | (simp; done) | (simp; omega))) ?_)) : Sat P g args' res := Sat.of_eq h e
end Go.V
namespace Go.V
/-- The cells of a gutter, one by one, its pipes told apart. -/
def gutE (n dp lv : Int) (h : Nat → Int) (z : D) : List D := .v (.int .i8 n) :: .v (.int .i16 dp) :: (hD h ++ [.v (.int .u32 lv), z])
theorem gutE_set {n dp lv : Int} {h : Nat → Int} {z : D} {k o : Nat} {x : Int} (hk : k < 17) (ho : o = 2 + k) : (gutE n dp lv h z).set o (.v (.int .i8 x)) = gutE n dp lv (putW h k x) z := by
  subst ho
  obtain ⟨j, rfl⟩ : ∃ j, k = j := ⟨k, rfl⟩
  match k, hk with
  | 0, _ => rfl
  | 1, _ => rfl
  | 2, _ => rfl
  | 3, _ => rfl
  | 4, _ => rfl
  | 5, _ => rfl
  | 6, _ => rfl
  | 7, _ => rfl
  | 8, _ => rfl
  | 9, _ => rfl
  | 10, _ => rfl
  | 11, _ => rfl
  | 12, _ => rfl
  | 13, _ => rfl
  | 14, _ => rfl
  | 15, _ => rfl
  | 16, _ => rfl
  | k + 17, h => exact absurd h (by omega)
end Go.V
namespace Go.Proofs.Ytcnenmcagkbppaa
open Go.V
theorem l00Max_sat (a b : Int) : Sat Try.prog 90 [.v (.int .i64 a), .v (.int .i64 b)] (.v (.int .i64 (if a < b then b else a))) := by
  refine sat_of_wp hMix tOk Try.func90 rfl rfl Try.ntmps90 rfl rfl Try.results90 (by kernel_rfl) ?_
  conv => whnf
  repeat (first | (refine go_E28 ?_; conv => whnf) | (refine lk_E28 ?_; conv => whnf))
  cases h : decide (a > b)
  · rw [show (if a < b then b else a) = b by simp at h; split <;> omega]
    conv => whnf
    repeat (first | (refine go_E28 ?_; conv => whnf) | (refine lk_E28 ?_; conv => whnf))
    first | refine ⟨rfl, _, rfl, ?_⟩ | refine ⟨_, rfl, ?_⟩
    rfl
  · rw [show (if a < b then b else a) = a by simp at h; split <;> omega]
    conv => whnf
    repeat (first | (refine go_E28 ?_; conv => whnf) | (refine lk_E28 ?_; conv => whnf))
    first | refine ⟨rfl, _, rfl, ?_⟩ | refine ⟨_, rfl, ?_⟩
    rfl
theorem l04Far_sat (a b : Int) (ha : 0 ≤ a ∧ a ≤ 1000) (hb : 0 ≤ b ∧ b ≤ 1000) : Sat Try.prog 64 [.v (.int .i64 a), .v (.int .i64 b)] (.v (.int .i64 (farI a b))) := by
  refine sat_of_wp hMix tOk Try.func64 rfl rfl Try.ntmps64 rfl rfl Try.results64 (by kernel_rfl) ?_
  conv => whnf
  repeat (first | (refine go_E28 ?_; conv => whnf) | (refine lk_E28 ?_; conv => whnf))
  rw [show IntKind.i64.wrap (a - b) = a - b from w64 (by omega) (by omega), show IntKind.i64.wrap (b - a) = b - a from w64 (by omega) (by omega)]
  first | refine ⟨_, _, rfl, sc_E28 (l00Max_sat (a - b) (b - a)), ?_⟩ | refine .inl ⟨_, _, rfl, sc_E28 (l00Max_sat (a - b) (b - a)), ?_⟩
  conv => whnf
  repeat (first | (refine go_E28 ?_; conv => whnf) | (refine lk_E28 ?_; conv => whnf))
  first | refine ⟨rfl, _, rfl, ?_⟩ | refine ⟨_, rfl, ?_⟩
  rfl
end Go.Proofs.Ytcnenmcagkbppaa
/- Gutters that slope to pipes: the reference's side. -/
set_option linter.unusedVariables false
set_option linter.unusedSimpArgs false
set_option maxRecDepth 4000
namespace Go.V
/- Words for the walks of this text: their default arguments are tried where they are used. -/
theorem go_E29 {P Q : Prop} (k : Q) (h : P := by first | exact Nat.le_of_ble_eq_true rfl | exact trivial | exact gutE_lt (by omega) | exact rfl | decide | omega | (simp [splice]; done) | (constructor <;> omega) | (simp [splice]; omega)) : P ∧ Q := ⟨h, k⟩
theorem lk_E29 {α : Type} {o : Option α} {K : α → Prop} {x : α} (k : K x) (h : o = some x := by first | exact hDA (by omega) | exact hDA' (by omega) | exact gutA (by omega) | exact pipeA (by omega) | exact pipeB (by omega) | exact pipeSA (by omega) | exact pipeSB (by omega) | exact intA (by omega) | exact intA' (by omega)) : optK o K := optK_of h k
theorem sc_E29 {P : Program} {g : FuncId} {args args' : List D} {res : D} (h : Sat P g args res) (e : args' = args := by repeat (first | rfl | exact vfull (by first | (simp [splice]; done) | (simp [splice]; omega)) | exact rfull (by first | (simp [splice]; done) | (simp [splice]; omega)) | exact vpipe (by simp; done) (by omega) | exact vsplice (by simp) (by simp) | refine ceq ?_ ?_ | refine Eq.trans (vsplice (by first | (simp; done) | (simp; omega)) (by first | (simp; done) | (simp; omega))) ?_)) : Sat P g args' res := Sat.of_eq h e
theorem leaf_E29 {P : Prop} (h : P := by first | rfl | exact succ8 (by omega) | exact succ64 (by omega) | exact CapOk.fn (by assumption) _ _ | exact vintS (by omega) | exact vintS (by rw [w64 (by omega) (by omega)]; omega) | exact vintS (by rw [w8 (by omega) (by omega)]; omega) | exact vslcS (by omega) | exact vslcS (by simp)) : P := h
theorem hold_E29 {P : Prop} (h : P := by (repeat' (first | exact trivial | apply And.intro)) <;> (first | rfl | exact succ8 (by omega) | exact succ64 (by omega) | exact CapOk.fn (by assumption) _ _ | exact vintS (by omega) | exact vintS (by rw [w64 (by omega) (by omega)]; omega) | exact vintS (by rw [w8 (by omega) (by omega)]; omega) | exact vslcS (by omega) | exact vslcS (by simp))) : P := h
theorem okt_E29 {P : Prop} (h : P := by first | omega | (dsimp only; omega) | ((repeat' apply And.intro) <;> omega) | (dsimp only; (repeat' apply And.intro) <;> omega) | trivial) : P := h
end Go.V
namespace Go.V
theorem gutE_lt {n dp lv : Int} {h : Nat → Int} {z : D} {k : Nat} (hk : k < 17) : 0 + 2 + (k : Int).toNat * 1 < (gutE n dp lv h z).length := by
  have : (gutE n dp lv h z).length = 21 := rfl
  rw [this]; simp; omega
def slF (ps : List (Int × Int)) (c i : Nat) : Int := (ps.take i).foldl (fun m q => minI m (farI c q.1)) 9
theorem slF_next {ps : List (Int × Int)} {c i : Nat} (h : i < ps.length) : slF ps c (i + 1) = minI (slF ps c i) (farI c (px ps i).1) := by
  unfold slF px
  rw [List.take_add_one, List.foldl_append, List.getD_eq_getElem?_getD]
  simp [h]
theorem slF_all (ps : List (Int × Int)) (c : Nat) : slF ps c ps.length = slH ps c := by unfold slF slH; rw [List.take_length]
/-- Heights as far as some cell. -/
def slK (ps : List (Int × Int)) (k : Nat) : Nat → Int := fun j => if j < k then slH ps j else 0
theorem slK_put (ps : List (Int × Int)) (k : Nat) : putW (slK ps k) k (slH ps k) = slK ps (k + 1) := by
  funext j
  unfold putW slK
  by_cases h : j = k
  · subst h; rw [if_pos rfl, if_pos (by omega)]
  · rw [if_neg h]
    by_cases h2 : j < k
    · rw [if_pos h2, if_pos (by omega)]
    · rw [if_neg h2, if_neg (by omega)]
theorem slK_all {n dp : Int} {ps : List (Int × Int)} (hn : 0 ≤ n) : (slG n dp ps).h = slK ps n.toNat := by
  funext j
  unfold slG slK
  simp only
  by_cases h : (j : Int) < n
  · rw [if_pos h, if_pos (by omega)]
  · rw [if_neg h, if_neg (by omega)]
end Go.V
namespace Go.Proofs.Ytcnenmcagkbppaa
open Go.V
theorem specSlope_sat (n dp : Int) (ps : List (Int × Int)) (hn : 1 ≤ n ∧ n ≤ 17) (hd : 0 ≤ dp ∧ dp ≤ 1000) (hg : (Gut.mk n dp (fun _ => 0) 0 ps).In) (hk : okG (Gut.mk n dp (fun _ => 0) 0 ps) = true) (hps : ps ≠ []) (m : Bool) :
    Sat Try.prog 20 [.v (.int .i64 n), .v (.int .i64 dp), pipesD m ps] (.tup [gutD true (slG n dp ps), .v (.int .i64 0)]) := by
  have ho := okG_ok hk
  have hpl : ps.length ≤ 4 := ho.len
  have hpp : ∀ i, i < ps.length → (0 ≤ (px ps i).1 ∧ (px ps i).1 ≤ n - 1) := fun i hi => (ho.ps i hi).1
  have sO := l06Ok_sat _ hg
  rw [hk] at sO
  have e : List.take ((0 + ps.length) * 2) (List.drop 0 ([] ++ pipesC ps)) = pipesC ps := by rw [Nat.zero_add, List.nil_append]; exact take_drop0 (by simp)
  have sO' : Sat Try.prog 39 [.ref false (.agg (gutE n dp 0 (fun _ => 0) (.row false 2 (.v (.agg ⟨List.take ((0 + ps.length) * 2) (List.drop 0 ([] ++ pipesC ps))⟩)) (0 + ps.length)))) 0] (.v (.bool true)) := by rw [e, Nat.zero_add]; exact sO
  have sI : Sat Try.prog 61 [.v (.int .i64 n), .v (.int .i64 1), .v (.int .i64 17)] (.v (.bool true)) := by
    have := l00In_sat n 1 17
    rw [show (decide (n ≥ 1) && decide (n ≤ 17)) = true by simp; omega] at this
    exact this
  have sD := l06Deep_sat dp
  rw [show deepB dp = true by unfold deepB; simp; omega] at sD
  refine sat_of_wp hMix tOk Try.func20 rfl rfl Try.ntmps20 rfl rfl Try.results20 (by kernel_rfl) ?_
  conv => whnf
  repeat (first | (refine go_E29 ?_; conv => whnf) | (refine lk_E29 ?_; conv => whnf))
  first | refine ⟨_, _, rfl, sc_E29 (sI), ?_⟩ | refine .inl ⟨_, _, rfl, sc_E29 (sI), ?_⟩
  conv => whnf
  repeat (first | (refine go_E29 ?_; conv => whnf) | (refine lk_E29 ?_; conv => whnf))
  first | refine ⟨_, _, rfl, sc_E29 (sD), ?_⟩ | refine .inl ⟨_, _, rfl, sc_E29 (sD), ?_⟩
  conv => whnf
  repeat (first | (refine go_E29 ?_; conv => whnf) | (refine lk_E29 ?_; conv => whnf))
  rw [show IntKind.i8.wrap n = n from w8 (by omega) (by omega), show IntKind.i16.wrap dp = dp from w16 (by omega) (by omega)]
  first | refine ⟨_, _, rfl, sc_E29 (sO'), ?_⟩ | refine .inl ⟨_, _, rfl, sc_E29 (sO'), ?_⟩
  conv => whnf
  repeat (first | (refine go_E29 ?_; conv => whnf) | (refine lk_E29 ?_; conv => whnf))
  rw [show ((ps.length : Int) == 0) = false by have : 0 < ps.length := List.length_pos_iff.2 hps; simp; omega]
  conv => whnf
  repeat (first | (refine go_E29 ?_; conv => whnf) | (refine lk_E29 ?_; conv => whnf))
  refine loop_rule (α := Nat) (fun k => [(0, .v (.int .i64 n)), (2, pipesD m ps), (6, .ptr (6, 0, 0) 0), (8, .ptr (8, 0, 0) 0), (9, .v (.int .i64 k))]) (fun k => [((6, 0, 0), .v (.agg ⟨[.int .i8 0, .int .i16 0] ++ List.replicate 17 (.int .i8 0) ++ [.int .u32 0, .slice none 0 0]⟩)), ((8, 0, 0), .agg (gutE n dp 0 (slK ps k) (.slc true 2 (27, 0, 0) 0 (0 + ps.length)))), ((27, 0, 0), .v (.agg ⟨pipesC ps⟩))]) (fun k => k ≤ n.toNat) (fun k => n.toNat - k) (0) ?_ (sim_of (rn := [((6, 0, 0), (6, 0, 0)), ((8, 0, 0), (8, 0, 0)), ((27, 0, 0), (27, 0, 0))]) rfl ?_ ?_) ?_
  · exact okt_E29
  · exact hold_E29
  · ((repeat' (first | exact trivial | apply And.intro)) <;> ((first | refine ⟨_, _, rfl, rfl, ?_⟩ ); rfl))
  intro k hk
  conv => whnf
  repeat (first | (refine go_E29 ?_; conv => whnf) | (refine lk_E29 ?_; conv => whnf))
  cases h : decide ((k : Int) < n)
  · have hkn : k = n.toNat := by simp at h; omega
    subst hkn
    conv => whnf
    repeat (first | (refine go_E29 ?_; conv => whnf) | (refine lk_E29 ?_; conv => whnf))
    first | refine ⟨rfl, _, rfl, ?_⟩ | refine ⟨_, rfl, ?_⟩
    skip
    have e2 : List.take ((0 + ps.length) * 2) (List.drop 0 (pipesC ps)) = pipesC ps := by rw [Nat.zero_add]; exact take_drop0 (by simp)
    refine Eq.trans (b := one' [.agg (gutE n dp 0 (slK ps n.toNat) (.row true 2 (.v (.agg ⟨List.take ((0 + ps.length) * 2) (List.drop 0 (pipesC ps))⟩)) (0 + ps.length))), .v (.int .i64 0)]) ?_ rfl
    rw [e2, Nat.zero_add, ← slK_all (dp := dp) (by omega)]; rfl
  have hkn : (k : Int) < n := by simpa using h
  conv => whnf
  repeat (first | (refine go_E29 ?_; conv => whnf) | (refine lk_E29 ?_; conv => whnf))
  refine loop_rule (α := Nat) (fun i => [(0, .v (.int .i64 n)), (2, pipesD m ps), (6, .ptr (6, 0, 0) 0), (8, .ptr (8, 0, 0) 0), (9, .v (.int .i64 k)), (10, .v (.int .i64 (slF ps k i))), (11, .v (.int .i64 i))]) (fun i => [((6, 0, 0), .v (.agg ⟨[.int .i8 0, .int .i16 0] ++ List.replicate 17 (.int .i8 0) ++ [.int .u32 0, .slice none 0 0]⟩)), ((8, 0, 0), .agg (gutE n dp 0 (slK ps k) (.slc true 2 (27, 0, 0) 0 (0 + ps.length)))), ((27, 0, 0), .v (.agg ⟨pipesC ps⟩))]) (fun i => i ≤ ps.length) (fun i => ps.length - i) (0) ?_ (sim_of (rn := [((6, 0, 0), (6, 0, 0)), ((8, 0, 0), (8, 0, 0)), ((27, 0, 0), (27, 0, 0))]) rfl ?_ ?_) ?_
  · exact okt_E29
  · exact hold_E29
  · ((repeat' (first | exact trivial | apply And.intro)) <;> ((first | refine ⟨_, _, rfl, rfl, ?_⟩ ); rfl))
  intro i hi
  conv => whnf
  repeat (first | (refine go_E29 ?_; conv => whnf) | (refine lk_E29 ?_; conv => whnf))
  cases h2 : decide ((i : Int) < (ps.length : Int))
  · have hin : i = ps.length := by simp at h2; omega
    subst hin
    have hs := slH_in ps k
    rw [slF_all]
    have setA : (gutE n dp 0 (slK ps k) (.slc true 2 (27, 0, 0) 0 (0 + ps.length))).set (0 + 2 + (k : Int).toNat * 1) (.v (.int .i8 (IntKind.i8.wrap (slH ps k)))) = gutE n dp 0 (slK ps (k + 1)) (.slc true 2 (27, 0, 0) 0 (0 + ps.length)) := by
      rw [w8 (by omega) (by omega), gutE_set (k := k) (by omega) (by simp), slK_put]
    conv => whnf
    repeat (first | (refine go_E29 ?_; conv => whnf) | (refine lk_E29 ?_; conv => whnf))
    refine ⟨k + 1, ?_, ?_, sim_of (rn := [((6, 0, 0), (6, 0, 0)), ((8, 0, 0), (8, 0, 0)), ((27, 0, 0), (27, 0, 0))]) rfl ?_ ?_⟩
    · (dsimp only; omega)
    · exact okt_E29
    · exact hold_E29
    · ((repeat' (first | exact trivial | apply And.intro)) <;> ((first | refine ⟨_, _, rfl, rfl, ?_⟩ ); first | rfl | (exact congrArg (fun l => some (D.agg l)) setA)))
  have hin : i < ps.length := by simpa using h2
  have hpi := hpp i hin
  have hsn := slF_next (c := k) hin
  conv => whnf
  repeat (first | (refine go_E29 ?_; conv => whnf) | (refine lk_E29 ?_; conv => whnf))
  rw [show IntKind.i64.wrap (px ps i).1 = (px ps i).1 from w64 (by omega) (by omega)]
  first | refine ⟨_, _, rfl, sc_E29 (l04Far_sat (k : Int) (px ps i).1 (by omega) (by omega)), ?_⟩ | refine .inl ⟨_, _, rfl, sc_E29 (l04Far_sat (k : Int) (px ps i).1 (by omega) (by omega)), ?_⟩
  conv => whnf
  repeat (first | (refine go_E29 ?_; conv => whnf) | (refine lk_E29 ?_; conv => whnf))
  first | refine ⟨_, _, rfl, sc_E29 (l00Min_sat _ _), ?_⟩ | refine .inl ⟨_, _, rfl, sc_E29 (l00Min_sat _ _), ?_⟩
  conv => whnf
  repeat (first | (refine go_E29 ?_; conv => whnf) | (refine lk_E29 ?_; conv => whnf))
  refine ⟨i + 1, ?_, ?_, sim_of (rn := [((6, 0, 0), (6, 0, 0)), ((8, 0, 0), (8, 0, 0)), ((27, 0, 0), (27, 0, 0))]) rfl ?_ ?_⟩
  · (dsimp only; omega)
  · exact okt_E29
  · ((repeat' (first | exact trivial | apply And.intro)) <;> (first | rfl | (exact vintS hsn) | exact leaf_E29))
  · ((repeat' (first | exact trivial | apply And.intro)) <;> ((first | refine ⟨_, _, rfl, rfl, ?_⟩ ); rfl))
end Go.Proofs.Ytcnenmcagkbppaa
