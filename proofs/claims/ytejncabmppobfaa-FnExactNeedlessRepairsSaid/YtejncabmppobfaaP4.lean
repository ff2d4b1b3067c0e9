import Derived.Test.YtejncabmppobfaaP3
set_option linter.unusedVariables false
set_option linter.unusedSimpArgs false
/- Contracts: needless repairs, the program's side. -/
set_option linter.unusedVariables false
set_option linter.unusedSimpArgs false
set_option maxRecDepth 4000
namespace Go.V
/- Words for the walks of this text: their default arguments are tried where they are used. -/
theorem go_E59 {P Q : Prop} (k : Q) (h : P := by first | exact Nat.le_of_ble_eq_true rfl | exact idxSide | exact keyTimes | exact keyNeed | exact trivial | exact rfl | decide | omega | (simp [splice]; done) | (constructor <;> omega) | (simp [splice]; omega)) : P ∧ Q := ⟨h, k⟩
theorem lk_E59 {α : Type} {o : Option α} {K : α → Prop} {x : α} (k : K x) (h : o = some x := by first | exact pqA (by omega) | exact pqB (by omega) | exact intA (by omega) | exact intA' (by omega)) : optK o K := optK_of h k
theorem sc_E59 {P : Program} {g : FuncId} {args args' : List D} {res : D} (h : Sat P g args res) (e : args' = args := by repeat (first | rfl | exact vfull (by first | (simp [splice]; done) | (simp [splice]; omega)) | exact rfull (by first | (simp [splice]; done) | (simp [splice]; omega)) | exact vsplice (by simp) (by simp) | refine ceq ?_ ?_ | refine Eq.trans (vsplice (by first | (simp; done) | (simp; omega)) (by first | (simp; done) | (simp; omega))) ?_)) : Sat P g args' res := Sat.of_eq h e
theorem sm_E59 {low : Bool} {P : Program} {g : FuncId} {args args' ms ms0 : List D} {res : D} {ms' : List (Option D)} {news : List D} (h : SatB low P g args ms res ms' news) (e : args' = args := by repeat (first | rfl | exact vfull (by first | (simp [splice]; done) | (simp [splice]; omega)) | exact rfull (by first | (simp [splice]; done) | (simp [splice]; omega)) | exact vsplice (by simp) (by simp) | refine ceq ?_ ?_ | refine Eq.trans (vsplice (by first | (simp; done) | (simp; omega)) (by first | (simp; done) | (simp; omega))) ?_)) (e2 : ms0 = ms := by repeat (first | rfl | exact vfull (by first | (simp [splice]; done) | (simp [splice]; omega)) | exact rfull (by first | (simp [splice]; done) | (simp [splice]; omega)) | exact vsplice (by simp) (by simp) | refine ceq ?_ ?_ | refine Eq.trans (vsplice (by first | (simp; done) | (simp; omega)) (by first | (simp; done) | (simp; omega))) ?_)) : SatB low P g args' ms0 res ms' news := SatB.of_eq h e e2
theorem leaf_E59 {P : Prop} (h : P := by first | rfl | exact succ8 (by omega) | exact succ64 (by omega) | exact CapOk.fn (by assumption) _ _ | exact vintS (by omega) | exact vintS (by rw [w64 (by omega) (by omega)]; omega) | exact vintS (by rw [w8 (by omega) (by omega)]; omega) | exact vslcS (by omega) | exact vslcS (by simp)) : P := h
theorem hold_E59 {P : Prop} (h : P := by (repeat' (first | exact trivial | apply And.intro)) <;> (first | rfl | exact succ8 (by omega) | exact succ64 (by omega) | exact CapOk.fn (by assumption) _ _ | exact vintS (by omega) | exact vintS (by rw [w64 (by omega) (by omega)]; omega) | exact vintS (by rw [w8 (by omega) (by omega)]; omega) | exact vslcS (by omega) | exact vslcS (by simp))) : P := h
theorem okt_E59 {P : Prop} (h : P := by first | omega | (dsimp only; omega) | ((repeat' apply And.intro) <;> omega) | (dsimp only; (repeat' apply And.intro) <;> omega) | trivial) : P := h
end Go.V
namespace Go.Proofs.Ytejncabmppobfaa
open Go.V
theorem keyTimes : KeyOk Try.prog 69 true := keyOk_place Try.underlying69
theorem keyNeed : KeyOk Try.prog 70 true := keyOk_place Try.underlying70
theorem idxSide {k : Int × Int} {z : Value} {kvs : List ((Int × Int) × Value)} : 0 ≤ ((idxK k kvs : Nat) : Int) ∧ ((idxK k kvs : Nat) : Int).toNat < (entK k z kvs).length := ⟨by omega, by rw [Int.toNat_natCast]; exact ent_len⟩
set_option maxRecDepth 10000 in
theorem implNeedless_sat (r : Roof) (hr : r.In) (w : Nat → Int) (hw : RaiIn w) (ps : List (Int × Int)) (hl : ps.length ≤ 1048576) (hq : AllQ ps) (b : Int) (m : Bool) : Sat Try.prog 14 [roofD r, raiD w, pqD m ps, .v (.int .i64 b)] (nlV r w ps b) := by
  have sK := implCheck_sat r hr w hw ps hl hq b false
  have good : ckK r w ps b = 0 → okN r w = true ∧ noQ r ps = false := fun h => by
    have := rnK_zero (frK_zero h).1
    simp at this
    exact ⟨this.1, this.2.1⟩
  refine satN_of_wp hMix tOk Try.func14 rfl rfl Try.ntmps14 rfl rfl Try.results14 (by kernel_rfl) ?_
  conv => whnf
  repeat (first | (refine go_E59 ?_; conv => whnf) | (refine lk_E59 ?_; conv => whnf))
  first | refine ⟨_, _, rfl, sc_E59 (sK), ?_⟩ | refine .inl ⟨_, _, rfl, sc_E59 (sK), ?_⟩
  conv => whnf
  repeat (first | (refine go_E59 ?_; conv => whnf) | (refine lk_E59 ?_; conv => whnf))
  cases h1 : (ckK r w ps b != 0)
  case true =>
    have h1' : ¬ ckK r w ps b = 0 := by simpa using h1
    have hk : nlK r w ps b = ckK r w ps b := by unfold nlK; rw [if_neg (by rintro ⟨h, _⟩; exact h1' h)]
    have hv : nlV r w ps b = .tup [intsD true [], .v (.int .i64 (ckK r w ps b))] := by unfold nlV; rw [hk, if_neg h1']; rfl
    rw [hv]
    conv => whnf
    repeat (first | (refine go_E59 ?_; conv => whnf) | (refine lk_E59 ?_; conv => whnf))
    rw [show intsD true [] = .row true 1 (.v (.agg ⟨[]⟩)) 0 by unfold intsD; rw [intsC_nil]; rfl]
    first | refine ⟨rfl, _, rfl, [_, _], rfl, ?_, rfl⟩ | refine ⟨_, rfl, [_, _], rfl, ?_, rfl⟩
    ((repeat' (first | exact trivial | apply And.intro)) <;> first | exact .inl rfl | exact .inr ⟨rfl, rfl⟩)
  have h1' : ckK r w ps b = 0 := by simpa using h1
  cases h2 : ckB r w ps b
  · have hk : nlK r w ps b = 4 := by unfold nlK; rw [if_pos ⟨h1', h2⟩]
    have hv : nlV r w ps b = .tup [intsD true [], .v (.int .i64 4)] := by unfold nlV; rw [hk, if_neg (by decide)]; rfl
    rw [hv]
    conv => whnf
    repeat (first | (refine go_E59 ?_; conv => whnf) | (refine lk_E59 ?_; conv => whnf))
    rw [show intsD true [] = .row true 1 (.v (.agg ⟨[]⟩)) 0 by unfold intsD; rw [intsC_nil]; rfl]
    first | refine ⟨rfl, _, rfl, [_, _], rfl, ?_, rfl⟩ | refine ⟨_, rfl, [_, _], rfl, ?_, rfl⟩
    ((repeat' (first | exact trivial | apply And.intro)) <;> first | exact .inl rfl | exact .inr ⟨rfl, rfl⟩)
  have hk : nlK r w ps b = 0 := by unfold nlK; rw [if_neg (by rintro ⟨_, h⟩; rw [h2] at h; cases h), h1']
  have hv : nlV r w ps b = .tup [intsD true (toI (nlL r w ps b ps.length)), .v (.int .i64 0)] := by unfold nlV; rw [hk, if_pos rfl]
  rw [hv]
  obtain ⟨hO, hN⟩ := good h1'
  have hb := okR_bounds (okN_R hO)
  conv => whnf
  repeat (first | (refine go_E59 ?_; conv => whnf) | (refine lk_E59 ?_; conv => whnf))
  refine loop_rule (α := Nat) (fun i => [(2, pqD m ps), (3, .v (.int .i64 b)), (4, .ptr (4, 0, 0) 0), (5, .ptr (5, 0, 0) 0), (12, .mr (37, 0, 0)), (38, pqD m ps), (39, .v (.int .i64 ps.length)), (40, .v (.int .i64 i))]) (fun i => [((4, 0, 0), roofD r), ((5, 0, 0), raiD w), ((37, 0, 0), .obj (.map true (tmL ps i)))]) (fun i => i ≤ ps.length) (fun i => ps.length - i) (0) ?_ (sim_of (rn := [((4, 0, 0), (4, 0, 0)), ((5, 0, 0), (5, 0, 0)), ((37, 0, 0), (37, 0, 0))]) rfl ?_ ?_) ?_
  · exact okt_E59
  · exact hold_E59
  · ((repeat' (first | exact trivial | apply And.intro)) <;> ((first | refine ⟨_, _, rfl, rfl, ?_⟩ ); first | rfl | (exact congrArg (fun l => some (D.obj (.map true l))) (tmL_zero ps).symm)))
  intro i hi
  conv => whnf
  repeat (first | (refine go_E59 ?_; conv => whnf) | (refine lk_E59 ?_; conv => whnf))
  cases h : decide ((i : Int) < (ps.length : Int))
  case true =>
    have hin : i < ps.length := by simpa using h
    have hqi := hq i hin
    have el : List.take ti56.size (List.drop ((i : Int).toNat * ti56.size) ({ toList := pqC ps } : Array Value).toList) = [.int .i8 (px ps i).1, .int .i8 (px ps i).2] := by rw [show (i : Int).toNat * ti56.size = i * 2 by simp]; exact pqC_sub hin
    conv => whnf
    repeat (first | (refine go_E59 ?_; conv => whnf) | (refine lk_E59 ?_; conv => whnf))
    have hL1 : (findK ((px ps i).1, (px ps i).2) (tmL ps i)).getD ti3.zero = .int .i64 (cntQ ps i (px ps i)) := tm_getD hi (px ps i)
    have hL2 : (findK ((px ps i).1, (px ps i).2) (entK ((px ps i).1, (px ps i).2) ti3.zero (tmL ps i))).getD ti3.zero = .int .i64 (cntQ ps i (px ps i)) := find_ent.trans hL1
    have hcn := cntQ_le ps i (px ps i)
    have ew : IntKind.i64.wrap ((cntQ ps i (px ps i) : Int) + 1) = (cntQ ps i (px ps i) : Int) + 1 := w64 (by omega) (by omega)
    have hel := ent_len (key := px ps i) (z := .int .i64 0) (kvs := tmL ps i)
    rw [el]
    refine Both.mk ?_ ?_
    all_goals
      conv => whnf
      repeat (first | (refine go_E59 ?_; conv => whnf) | (refine lk_E59 ?_; conv => whnf))
      refine Both.mk ?_ ?_
    all_goals
      conv => whnf
      repeat (first | (refine go_E59 ?_; conv => whnf) | (refine lk_E59 ?_; conv => whnf))
      refine Both.mk ?_ ?_
    all_goals
      conv => whnf
      repeat (first | (refine go_E59 ?_; conv => whnf) | (refine lk_E59 ?_; conv => whnf))
    all_goals
      first | refine Both.mk ?_ ?_ | skip
    all_goals
      first | rw [hL1] | rw [hL2] | skip
      conv => whnf
      repeat (first | (refine go_E59 ?_; conv => whnf) | (refine lk_E59 ?_; conv => whnf))
    all_goals
      first | rw [hL1] | rw [hL2] | skip
      conv => whnf
      repeat (first | (refine go_E59 ?_; conv => whnf) | (refine lk_E59 ?_; conv => whnf))
    all_goals
      refine ⟨i + 1, ?_, ?_, sim_of (rn := [((4, 0, 0), (4, 0, 0)), ((5, 0, 0), (5, 0, 0)), ((37, 0, 0), (37, 0, 0))]) rfl ?_ ?_⟩
      · (dsimp only; omega)
      · exact okt_E59
      · exact hold_E59
      · ((repeat' (first | exact trivial | apply And.intro)) <;> ((first | refine ⟨_, _, rfl, rfl, ?_⟩ ); first | rfl | (exact congrArg (fun l => some (D.obj (.map true l))) (tm_step hin ew rfl))))
  have hin : i = ps.length := by simp at h; omega
  subst hin
  conv => whnf
  repeat (first | (refine go_E59 ?_; conv => whnf) | (refine lk_E59 ?_; conv => whnf))
  have hT := tm_find ps ps.length (Nat.le_refl _)
  have hG := fun j key v => tm_get (ps := ps) (j := j) (key := key) (v := v)
  generalize hkv : tmL ps ps.length = tm at *
  refine loop_rule (α := List Nat × List ((Int × Int) × Value)) (fun x => [(2, pqD m ps), (3, .v (.int .i64 b)), (4, .ptr (4, 0, 0) 0), (5, .ptr (5, 0, 0) 0), (12, .mr (37, 0, 0)), (15, .mr (51, 0, 0)), (53, .ptr (53, 0, 0) 0)]) (fun x => [((4, 0, 0), roofD r), ((5, 0, 0), raiD w), ((37, 0, 0), .obj (.map true tm)), ((51, 0, 0), .obj (.map true x.2)), ((53, 0, 0), .obj (.mit (37, 0, 0) tm.length x.1 tm.length))]) (fun x => NdOk (ndP r w ps b) (tm.map (·.1)) x.1 x.2) (fun x => tm.length - x.1.length) (([], [])) ?_ (sim_of (rn := [((4, 0, 0), (4, 0, 0)), ((5, 0, 0), (5, 0, 0)), ((37, 0, 0), (37, 0, 0)), ((51, 0, 0), (51, 1, 0)), ((53, 0, 0), (53, 1, 0))]) rfl ?_ ?_) ?_
  · exact ⟨by simp, by simp, by simp⟩
  · exact hold_E59
  · ((repeat' (first | exact trivial | apply And.intro)) <;> ((first | refine ⟨_, _, rfl, rfl, ?_⟩ ); rfl))
  rintro ⟨seen, kvs⟩ hnd
  dsimp only at hnd
  conv => whnf
  repeat (first | (refine go_E59 ?_; conv => whnf) | (refine lk_E59 ?_; conv => whnf))
  refine Both.mk ?_ ?_
  · intro j key v hj hjs
    obtain ⟨rfl, hmem⟩ := hG j key v hj
    have hbd : ∀ q ∈ ps, (-128 ≤ q.1 ∧ q.1 ≤ 127) ∧ (-128 ≤ q.2 ∧ q.2 ≤ 127) := fun q hqm => by
      obtain ⟨i, hi⟩ := List.getElem?_of_mem hqm
      have hlt := (List.getElem?_eq_some_iff.1 hi).1
      have := hq i hlt
      rw [px_some hlt] at hi
      rw [Option.some.inj hi] at this
      exact this
    have hg : ∀ q ∈ ps, Sat Try.prog 40 [pq1 q, .ref false (.v (.agg ⟨[.int .i8 key.1, .int .i8 key.2]⟩)) 0] (.v (.bool (!(fun x : Int × Int => !(x == key)) q))) := fun q hqm => by
      have := needless1_sat q key (hbd q hqm) (hbd key hmem)
      dsimp only
      rw [Bool.not_not]
      exact this
    have hpos : 0 < ps.length := List.length_pos_of_mem hmem
    have hN2 : noQ r (ps.filter fun x => !(x == key)) = false := noQ_mem.2 fun q hqm => noQ_mem.1 hN q (List.mem_filter.1 hqm).1
    have hrow := pq_row hb hN2
    have hfl := List.length_filter_le (fun x => !(x == key)) ps
    have sA := after_sat r hr hb w (okN_w hO) (plQ (ps.filter fun x => !(x == key))) (by rw [plQ_len]; omega) hrow.2 false
    rw [← hrow.1] at sA
    unfold pqD at sA
    have ekq : List.take ((ps.filter fun x => !(x == key)).length * 2) (List.drop 0 (pqC (kqC (fun x => !(x == key)) ps))) = pqC (ps.filter fun x => !(x == key)) := by
      unfold kqC
      rw [List.drop_zero, pqC_takeV, List.take_left]
    rw [← ekq] at sA
    have ecn : cntQ ps ps.length key = (ps.filter fun x => x == key).length := by unfold cntQ; rw [List.take_length]
    have hkeys : (tm.map (·.1))[j]? = some key := by rw [List.getElem?_map, hj]; rfl
    have hnx := hnd.next hjs hkeys
    have hbn := nodup_bound hnx.nodup hnx.small
    have hnp : ndP r w ps b key = (decide ((cntQ ps ps.length key : Int) > 1) || decide (afI r w (plQ (ps.filter fun x => !(x == key))) ≤ b)) := by
      unfold ndP; rw [ecn]; congr 1; apply decide_eq_decide.2; omega
    rw [List.length_map, List.length_append, List.length_singleton] at hbn
    have hsl : (seen ++ [j]).length = seen.length + 1 := by simp
    conv => whnf
    repeat (first | (refine go_E59 ?_; conv => whnf) | (refine lk_E59 ?_; conv => whnf))
    refine ⟨j, key, _, by simp, hj, ?_⟩
    conv => whnf
    repeat (first | (refine go_E59 ?_; conv => whnf) | (refine lk_E59 ?_; conv => whnf))
    first | refine ⟨_, _, rfl, sc_E59 (cloneQ_sat ps hl), ?_⟩ | refine .inl ⟨_, _, rfl, sc_E59 (cloneQ_sat ps hl), ?_⟩
    conv => whnf
    repeat (first | (refine go_E59 ?_; conv => whnf) | (refine lk_E59 ?_; conv => whnf))
    first | refine ⟨[(60, 1, 0), (16, 1, 0)], _, _, _, _, _, _, _, _, rfl, rfl, rfl, rfl, (sm_E59 (deleteQ_satM (keep := fun x => !(x == key)) ps ⟨hpos, hl⟩ hg)), rfl, rfl, rfl, rfl, ?_⟩ | refine .inr ⟨[(60, 1, 0), (16, 1, 0)], _, _, _, _, _, _, _, _, rfl, rfl, rfl, rfl, (sm_E59 (deleteQ_satM (keep := fun x => !(x == key)) ps ⟨hpos, hl⟩ hg)), rfl, rfl, rfl, rfl, ?_⟩ | refine ⟨[(60, 1, 0), (16, 1, 0)], _, _, _, _, _, rfl, rfl, rfl, rfl, (sm_E59 (deleteQ_satM (keep := fun x => !(x == key)) ps ⟨hpos, hl⟩ hg)), rfl, rfl, ?_⟩
    conv => whnf
    repeat (first | (refine go_E59 ?_; conv => whnf) | (refine lk_E59 ?_; conv => whnf))
    cases hc : decide ((cntQ ps ps.length key : Int) > 1)
    · rw [hc, Bool.false_or] at hnp
      conv => whnf
      repeat (first | (refine go_E59 ?_; conv => whnf) | (refine lk_E59 ?_; conv => whnf))
      first | refine ⟨_, _, rfl, sc_E59 (sA), ?_⟩ | refine .inl ⟨_, _, rfl, sc_E59 (sA), ?_⟩
      conv => whnf
      repeat (first | (refine go_E59 ?_; conv => whnf) | (refine lk_E59 ?_; conv => whnf))
      refine ⟨(seen ++ [j], setK key (.bool (ndP r w ps b key)) kvs), ?_, ?_, sim_of (rn := [((4, 0, 0), (4, 0, 0)), ((5, 0, 0), (5, 0, 0)), ((37, 0, 0), (37, 0, 0)), ((51, 0, 0), (51, 0, 0)), ((53, 0, 0), (53, 0, 0))]) rfl ?_ ?_⟩
      · (dsimp only; omega)
      · exact hnx
      · exact hold_E59
      · ((repeat' (first | exact trivial | apply And.intro)) <;> ((first | refine ⟨_, _, rfl, rfl, ?_⟩ ); first | rfl | (exact congrArg (fun v => some (D.obj (.map true (setK key (.bool v) kvs)))) hnp.symm)))
    · rw [hc, Bool.true_or] at hnp
      conv => whnf
      repeat (first | (refine go_E59 ?_; conv => whnf) | (refine lk_E59 ?_; conv => whnf))
      refine ⟨(seen ++ [j], setK key (.bool (ndP r w ps b key)) kvs), ?_, ?_, sim_of (rn := [((4, 0, 0), (4, 0, 0)), ((5, 0, 0), (5, 0, 0)), ((37, 0, 0), (37, 0, 0)), ((51, 0, 0), (51, 0, 0)), ((53, 0, 0), (53, 0, 0))]) rfl ?_ ?_⟩
      · (dsimp only; omega)
      · exact hnx
      · exact hold_E59
      · ((repeat' (first | exact trivial | apply And.intro)) <;> ((first | refine ⟨_, _, rfl, rfl, ?_⟩ ); first | rfl | (exact congrArg (fun v => some (D.obj (.map true (setK key (.bool v) kvs)))) hnp.symm)))
  · intro hov
    have hB : afI r w (plQ ps) ≤ b := by
      unfold ckB at h2
      rw [if_pos h1'] at h2
      simpa using h2
    have hall : ∀ i, i < ps.length → (findK ((px ps i).1, (px ps i).2) kvs).getD ti4.zero = .bool (nlP r w ps b i) := by
      intro i hi
      have hf := hT.2 (px ps i)
      have hc : cntQ ps ps.length (px ps i) ≠ 0 := by
        unfold cntQ
        rw [List.take_length]
        have : px ps i ∈ ps.filter fun x => x == px ps i := List.mem_filter.2 ⟨px_mem hi, by simp⟩
        have := List.length_pos_of_mem this
        omega
      rw [if_neg hc] at hf
      have hg := findK_get hf
      have hlt := (List.getElem?_eq_some_iff.1 hg).1
      have hs := hov _ hlt hlt
      have hfk := hnd.find _ hs (px ps i) (by rw [List.getElem?_map, hg]; rfl)
      rw [nd_is hB hi] at hfk
      show (findK (px ps i) kvs).getD _ = _
      rw [hfk]; rfl
    conv => whnf
    repeat (first | (refine go_E59 ?_; conv => whnf) | (refine lk_E59 ?_; conv => whnf))
    refine loop_rule (α := Nat) (fun i => [(15, .mr (51, 0, 0)), (19, .slc true 1 (88, 0, 0) 0 (nlL r w ps b i).length), (75, pqD m ps), (76, .v (.int .i64 ps.length)), (77, .v (.int .i64 i))]) (fun i => [((51, 0, 0), .obj (.map true kvs)), ((88, 0, 0), .v (.agg ⟨intsC (toI (nlL r w ps b i))⟩))]) (fun i => i ≤ ps.length) (fun i => ps.length - i) (0) ?_ (sim_of (rn := [((51, 0, 0), (51, 0, 0)), ((88, 0, 0), nilId)]) rfl ?_ ?_) ?_
    · exact okt_E59
    · exact hold_E59
    · ((repeat' (first | exact trivial | apply And.intro)) <;> ((first | refine ⟨_, _, rfl, rfl, ?_⟩ ); first | rfl | (exact cset (show [] = intsC [] from intsC_nil.symm))))
    intro i hi
    have hll := nl_len r w ps b i
    conv => whnf
    repeat (first | (refine go_E59 ?_; conv => whnf) | (refine lk_E59 ?_; conv => whnf))
    cases h : decide ((i : Int) < (ps.length : Int))
    · have hin : i = ps.length := by simp at h; omega
      subst hin
      rw [show intsD true (toI (nlL r w ps b ps.length)) = .row true 1 (.v (.agg ⟨intsC (toI (nlL r w ps b ps.length))⟩)) (nlL r w ps b ps.length).length by unfold intsD; rw [toI_len]]
      conv => whnf
      repeat (first | (refine go_E59 ?_; conv => whnf) | (refine lk_E59 ?_; conv => whnf))
      first | refine ⟨rfl, _, rfl, [_, _], rfl, ?_, rfl⟩ | refine ⟨_, rfl, [_, _], rfl, ?_, rfl⟩
      ((repeat' (first | exact trivial | apply And.intro)) <;> first | exact .inl rfl | exact .inr ⟨rfl, rfl⟩)
    have hin : i < ps.length := by simpa using h
    have hqi := hq i hin
    have el : List.take ti56.size (List.drop ((i : Int).toNat * ti56.size) ({ toList := pqC ps } : Array Value).toList) = [.int .i8 (px ps i).1, .int .i8 (px ps i).2] := by rw [show (i : Int).toNat * ti56.size = i * 2 by simp]; exact pqC_sub hin
    have hLk := hall i hin
    conv => whnf
    repeat (first | (refine go_E59 ?_; conv => whnf) | (refine lk_E59 ?_; conv => whnf))
    rw [el]
    conv => whnf
    repeat (first | (refine go_E59 ?_; conv => whnf) | (refine lk_E59 ?_; conv => whnf))
    rw [hLk]
    cases hp : nlP r w ps b i
    · have e1 := nl_no hp
      conv => whnf
      repeat (first | (refine go_E59 ?_; conv => whnf) | (refine lk_E59 ?_; conv => whnf))
      refine ⟨i + 1, ?_, ?_, sim_of (rn := [((51, 0, 0), (51, 0, 0)), ((88, 0, 0), (88, 0, 0))]) rfl ?_ ?_⟩
      · (dsimp only; omega)
      · exact okt_E59
      · ((repeat' (first | exact trivial | apply And.intro)) <;> (first | rfl | (exact vslcS (by rw [e1])) | exact leaf_E59))
      · ((repeat' (first | exact trivial | apply And.intro)) <;> ((first | refine ⟨_, _, rfl, rfl, ?_⟩ ); first | rfl | ((exact cset (by rw [e1])))))
    · have e1 := nl_yes hp
      have e2 : intsC (toI (nlL r w ps b i)) ++ [.int .i64 (i : Int)] = intsC (toI (nlL r w ps b (i + 1))) := by rw [e1, toI_snoc, intsC_append, intsC_one]
      have e3 : (nlL r w ps b (i + 1)).length = (nlL r w ps b i).length + 1 := by rw [e1]; simp
      conv => whnf
      repeat (first | (refine go_E59 ?_; conv => whnf) | (refine lk_E59 ?_; conv => whnf))
      refine ⟨i + 1, ?_, ?_, sim_of (rn := [((51, 0, 0), (51, 0, 0)), ((88, 0, 0), (88, 1, 0))]) rfl ?_ ?_⟩
      · (dsimp only; omega)
      · exact okt_E59
      · ((repeat' (first | exact trivial | apply And.intro)) <;> (first | rfl | (exact vslcS e3) | exact leaf_E59))
      · ((repeat' (first | exact trivial | apply And.intro)) <;> ((first | refine ⟨_, _, rfl, rfl, ?_⟩ ); first | rfl | (exact cset e2)))
end Go.Proofs.Ytejncabmppobfaa
/- The law of needless repairs. -/
set_option linter.unusedVariables false
set_option linter.unusedSimpArgs false
set_option maxRecDepth 4000
namespace Go.V
/- Words for the walks of this text: their default arguments are tried where they are used. -/
theorem go_E60 {P Q : Prop} (k : Q) (h : P := by first | exact Nat.le_of_ble_eq_true rfl | exact trivial | exact rfl | decide | omega | (simp [splice]; done) | (constructor <;> omega) | (simp [splice]; omega)) : P ∧ Q := ⟨h, k⟩
theorem lk_E60 {α : Type} {o : Option α} {K : α → Prop} {x : α} (k : K x) (h : o = some x := by first | exact pqA (by omega) | exact pqB (by omega) | exact intA (by omega) | exact intA' (by omega)) : optK o K := optK_of h k
theorem sc_E60 {P : Program} {g : FuncId} {args args' : List D} {res : D} (h : Sat P g args res) (e : args' = args := by repeat (first | rfl | exact vfull (by first | (simp [splice]; done) | (simp [splice]; omega)) | exact rfull (by first | (simp [splice]; done) | (simp [splice]; omega)) | exact vsplice (by simp) (by simp) | refine ceq ?_ ?_ | refine Eq.trans (vsplice (by first | (simp; done) | (simp; omega)) (by first | (simp; done) | (simp; omega))) ?_)) : Sat P g args' res := Sat.of_eq h e
theorem sm_E60 {low : Bool} {P : Program} {g : FuncId} {args args' ms ms0 : List D} {res : D} {ms' : List (Option D)} {news : List D} (h : SatB low P g args ms res ms' news) (e : args' = args := by repeat (first | rfl | exact vfull (by first | (simp [splice]; done) | (simp [splice]; omega)) | exact rfull (by first | (simp [splice]; done) | (simp [splice]; omega)) | exact vsplice (by simp) (by simp) | refine ceq ?_ ?_ | refine Eq.trans (vsplice (by first | (simp; done) | (simp; omega)) (by first | (simp; done) | (simp; omega))) ?_)) (e2 : ms0 = ms := by repeat (first | rfl | exact vfull (by first | (simp [splice]; done) | (simp [splice]; omega)) | exact rfull (by first | (simp [splice]; done) | (simp [splice]; omega)) | exact vsplice (by simp) (by simp) | refine ceq ?_ ?_ | refine Eq.trans (vsplice (by first | (simp; done) | (simp; omega)) (by first | (simp; done) | (simp; omega))) ?_)) : SatB low P g args' ms0 res ms' news := SatB.of_eq h e e2
theorem hold_E60 {P : Prop} (h : P := by (repeat' (first | exact trivial | apply And.intro)) <;> (first | rfl | exact succ8 (by omega) | exact succ64 (by omega) | exact CapOk.fn (by assumption) _ _ | exact vintS (by omega) | exact vintS (by rw [w64 (by omega) (by omega)]; omega) | exact vintS (by rw [w8 (by omega) (by omega)]; omega) | exact vslcS (by omega) | exact vslcS (by simp))) : P := h
theorem okt_E60 {P : Prop} (h : P := by first | omega | (dsimp only; omega) | ((repeat' apply And.intro) <;> omega) | (dsimp only; (repeat' apply And.intro) <;> omega) | trivial) : P := h
end Go.V
namespace Go.Proofs.Ytejncabmppobfaa
open Go.V
theorem cpQ_zeroP (ps : List (Int × Int)) : rep ps.length [.int .i8 0, .int .i8 0] = pqC (cpQ ps 0) := by
  unfold cpQ; rw [List.take_zero, List.nil_append, Nat.sub_zero, pq_rep]
theorem cpQ_nextP {ps : List (Int × Int)} {i : Nat} (h : i < ps.length) : splice (pqC (cpQ ps i)) (i * 2) [.int .i8 (px ps i).1, .int .i8 (px ps i).2] = pqC (cpQ ps (i + 1)) := by
  rw [pq_set (i := i) (by rw [cpQ_len (by omega)]; exact h) rfl]
  congr 1
  unfold cpQ
  rw [List.set_append, if_neg (by simp; omega)]
  have e1 : i - (ps.take i).length = 0 := by simp; omega
  rw [e1, show ps.length - i = (ps.length - (i + 1)) + 1 by omega, List.replicate_succ, List.set_cons_zero, take_px h, List.append_assoc]
  rfl
theorem szPlaceQ_sat (ps : List (Int × Int)) (hl : ps.length ≤ 9223372036854775807) (l : Int) (h : 0 ≤ l ∧ l ≤ 1048576) (m : Bool) : Sat Try.prog 9 [pqD m ps, .v (.int .i64 l)] (.v (.int .i64 (if l - ps.length < 0 then -1 else l - ps.length))) := by
  refine sat_of_wp hMix tOk Try.func9 rfl rfl Try.ntmps9 rfl rfl Try.results9 (by kernel_rfl) ?_
  conv => whnf
  repeat (first | (refine go_E60 ?_; conv => whnf) | (refine lk_E60 ?_; conv => whnf))
  rw [show IntKind.i64.wrap (l - (ps.length : Int)) = l - ps.length from w64 (by omega) (by omega)]
  cases h1 : decide (l - (ps.length : Int) < 0)
  · have h' : ¬ l - (ps.length : Int) < 0 := by simpa using h1
    rw [if_neg h']
    conv => whnf
    repeat (first | (refine go_E60 ?_; conv => whnf) | (refine lk_E60 ?_; conv => whnf))
    first | refine ⟨rfl, _, rfl, ?_⟩ | refine ⟨_, rfl, ?_⟩
    rfl
  have h' : l - (ps.length : Int) < 0 := by simpa using h1
  rw [if_pos h']
  conv => whnf
  repeat (first | (refine go_E60 ?_; conv => whnf) | (refine lk_E60 ?_; conv => whnf))
  first | refine ⟨rfl, _, rfl, ?_⟩ | refine ⟨_, rfl, ?_⟩
  rfl
theorem toPlace1_sat (q : Int × Int) : Sat Try.prog 24 [pq1 q] (pq1 q) := by
  refine sat_of_wp hMix tOk Try.func24 rfl rfl Try.ntmps24 rfl rfl Try.results24 (by kernel_rfl) ?_
  conv => whnf
  repeat (first | (refine go_E60 ?_; conv => whnf) | (refine lk_E60 ?_; conv => whnf))
  first | refine ⟨rfl, _, rfl, ?_⟩ | refine ⟨_, rfl, ?_⟩
  rfl
theorem toPlaceQ_sat (ps : List (Int × Int)) (hl : ps.length ≤ 1048576) (m : Bool) : Sat Try.prog 13 [pqD m ps] (pqD true ps) := by
  refine sat_of_wp hMix tOk Try.func13 rfl rfl Try.ntmps13 rfl rfl Try.results13 (by kernel_rfl) ?_
  conv => whnf
  repeat (first | (refine go_E60 ?_; conv => whnf) | (refine lk_E60 ?_; conv => whnf))
  refine loop_rule (α := Nat) (fun i => [(0, pqD m ps), (3, .slc true 2 (7, 0, 0) 0 ps.length), (4, .v (.int .i64 i))]) (fun i => [((7, 0, 0), .v (.agg ⟨pqC (cpQ ps i)⟩))]) (fun i => i ≤ ps.length) (fun i => ps.length - i) (0) ?_ (sim_of (rn := [((7, 0, 0), (7, 0, 0))]) rfl ?_ ?_) ?_
  · exact okt_E60
  · exact hold_E60
  · ((repeat' (first | exact trivial | apply And.intro)) <;> ((first | refine ⟨_, _, rfl, rfl, ?_⟩ ); first | rfl | (exact cset (cpQ_zeroP ps))))
  intro i hi
  conv => whnf
  repeat (first | (refine go_E60 ?_; conv => whnf) | (refine lk_E60 ?_; conv => whnf))
  cases h : decide ((i : Int) < (ps.length : Int))
  · have hin : i = ps.length := by simp at h; omega
    subst hin
    rw [cpQ_all]
    conv => whnf
    repeat (first | (refine go_E60 ?_; conv => whnf) | (refine lk_E60 ?_; conv => whnf))
    first | refine ⟨rfl, _, rfl, ?_⟩ | refine ⟨_, rfl, ?_⟩
    rfl
  have hin : i < ps.length := by simpa using h
  have hcl := cpQ_len (ps := ps) (i := i) hi
  have el : List.take ti53.size (List.drop ((i : Int).toNat * ti53.size) ({ toList := pqC ps } : Array Value).toList) = [.int .i8 (px ps i).1, .int .i8 (px ps i).2] := by rw [show (i : Int).toNat * ti53.size = i * 2 by simp]; exact pqC_sub hin
  conv => whnf
  repeat (first | (refine go_E60 ?_; conv => whnf) | (refine lk_E60 ?_; conv => whnf))
  rw [el]
  conv => whnf
  repeat (first | (refine go_E60 ?_; conv => whnf) | (refine lk_E60 ?_; conv => whnf))
  first | refine ⟨_, _, rfl, sc_E60 (toPlace1_sat (px ps i)), ?_⟩ | refine .inl ⟨_, _, rfl, sc_E60 (toPlace1_sat (px ps i)), ?_⟩
  conv => whnf
  repeat (first | (refine go_E60 ?_; conv => whnf) | (refine lk_E60 ?_; conv => whnf))
  have setA : splice (pqC (cpQ ps i)) (0 + (i : Int).toNat * 2) [.int .i8 (px ps i).1, .int .i8 (px ps i).2] = pqC (cpQ ps (i + 1)) := by
    rw [show 0 + (i : Int).toNat * 2 = i * 2 by omega, cpQ_nextP hin]
  refine ⟨i + 1, ?_, ?_, sim_of (rn := [((7, 0, 0), (7, 0, 0))]) rfl ?_ ?_⟩
  · (dsimp only; omega)
  · exact okt_E60
  · exact hold_E60
  · ((repeat' (first | exact trivial | apply And.intro)) <;> ((first | refine ⟨_, _, rfl, rfl, ?_⟩ ); first | rfl | (exact cset setA)))
theorem eqPlaceQ1_sat (q : Int × Int) : Sat Try.prog 42 [pq1 q, pq1 q] (.v (.bool true)) := by
  refine sat_of_wp hMix tOk Try.func42 rfl rfl Try.ntmps42 rfl rfl Try.results42 (by kernel_rfl) ?_
  conv => whnf
  rw [show (q.1 != q.1) = false by simp]
  conv => whnf
  rw [show (q.2 != q.2) = false by simp]
  exact ⟨rfl, _, rfl, rfl⟩
theorem eqPlaceQ_same (ps : List (Int × Int)) (hl : ps.length ≤ 1048576) (m m' : Bool) : Sat Try.prog 16 [pqD m ps, pqD m' ps] (.v (.bool true)) := by
  refine sat_of_wp hMix tOk Try.func16 rfl rfl Try.ntmps16 rfl rfl Try.results16 (by kernel_rfl) ?_
  conv => whnf
  repeat (first | (refine go_E60 ?_; conv => whnf) | (refine lk_E60 ?_; conv => whnf))
  rw [show ((ps.length : Int) != (ps.length : Int)) = false by simp]
  conv => whnf
  repeat (first | (refine go_E60 ?_; conv => whnf) | (refine lk_E60 ?_; conv => whnf))
  refine loop_rule (α := Nat) (fun i => [(0, pqD m ps), (1, pqD m' ps), (5, .v (.int .i64 i))]) (fun i => []) (fun i => i ≤ ps.length) (fun i => ps.length - i) (0) ?_ (sim_of (rn := []) rfl ?_ ?_) ?_
  · exact okt_E60
  · exact hold_E60
  · ((repeat' (first | exact trivial | apply And.intro)) <;> ((first | refine ⟨_, _, rfl, rfl, ?_⟩ ); rfl))
  intro i hi
  conv => whnf
  repeat (first | (refine go_E60 ?_; conv => whnf) | (refine lk_E60 ?_; conv => whnf))
  cases h : decide ((i : Int) < (ps.length : Int))
  · conv => whnf
    repeat (first | (refine go_E60 ?_; conv => whnf) | (refine lk_E60 ?_; conv => whnf))
    first | refine ⟨rfl, _, rfl, ?_⟩ | refine ⟨_, rfl, ?_⟩
    rfl
  have hin : i < ps.length := by simpa using h
  have el : List.take ti56.size (List.drop ((i : Int).toNat * ti56.size) ({ toList := pqC ps } : Array Value).toList) = [.int .i8 (px ps i).1, .int .i8 (px ps i).2] := by rw [show (i : Int).toNat * ti56.size = i * 2 by simp]; exact pqC_sub hin
  conv => whnf
  repeat (first | (refine go_E60 ?_; conv => whnf) | (refine lk_E60 ?_; conv => whnf))
  rw [el]
  conv => whnf
  repeat (first | (refine go_E60 ?_; conv => whnf) | (refine lk_E60 ?_; conv => whnf))
  first | refine ⟨_, _, rfl, sc_E60 (eqPlaceQ1_sat (px ps i)), ?_⟩ | refine .inl ⟨_, _, rfl, sc_E60 (eqPlaceQ1_sat (px ps i)), ?_⟩
  conv => whnf
  repeat (first | (refine go_E60 ?_; conv => whnf) | (refine lk_E60 ?_; conv => whnf))
  refine ⟨i + 1, ?_, ?_, sim_of (rn := []) rfl ?_ ?_⟩
  · (dsimp only; omega)
  · exact okt_E60
  · exact hold_E60
  · ((repeat' (first | exact trivial | apply And.intro)) <;> ((first | refine ⟨_, _, rfl, rfl, ?_⟩ ); rfl))
set_option maxHeartbeats 4000000 in
theorem fnExactNeedlessRepairs_sat (r : Roof) (hr : r.In) (w : Nat → Int) (hw : RaiIn w) (ps : List (Int × Int)) (hps : AllQ ps ∧ ps.length ≤ 9223372036854775807) (b : Int) (hb : I64 b) : Sat Try.prog 3 [roofD r, raiD w, pqD false ps, .v (.int .i64 b)] (.v (.bool true)) := by
  by_cases hbig : 1048576 < ps.length
  · refine sat_of_wp hMix tOk Try.func3 rfl rfl Try.ntmps3 rfl rfl Try.results3 (by kernel_rfl) ?_
    conv => whnf
    repeat (first | (refine go_E60 ?_; conv => whnf) | (refine lk_E60 ?_; conv => whnf))
    first | refine ⟨_, _, rfl, sc_E60 (szPlaceQ_sat ps hps.2 1048576 (by omega) false), ?_⟩ | refine .inl ⟨_, _, rfl, sc_E60 (szPlaceQ_sat ps hps.2 1048576 (by omega) false), ?_⟩
    conv => whnf
    repeat (first | (refine go_E60 ?_; conv => whnf) | (refine lk_E60 ?_; conv => whnf))
    rw [show (if (1048576 : Int) - ps.length < 0 then (-1 : Int) else 1048576 - ps.length) = -1 from if_pos (by omega)]
    conv => whnf
    repeat (first | (refine go_E60 ?_; conv => whnf) | (refine lk_E60 ?_; conv => whnf))
    first | refine ⟨rfl, _, rfl, ?_⟩ | refine ⟨_, rfl, ?_⟩
    rfl
  have hl : ps.length ≤ 1048576 := by omega
  have eT : List.take (ps.length * 2) (List.drop 0 (pqC ps)) = pqC ps := take_drop0 (by simp)
  have s1 := specNeedless_sat r hr w hw ps hl hps.1 b false
  have s2 := implNeedless_sat r hr w hw ps hl hps.1 b false
  have s3 := eqPlaceQ_same ps hl false false
  unfold nlV at s1 s2
  have hxl : (toI (if nlK r w ps b = 0 then nlL r w ps b ps.length else [])).length ≤ 1048576 := by
    rw [toI_len]
    split
    · exact Nat.le_trans (nl_len _ _ _ _ _) hl
    · simp
  generalize toI (if nlK r w ps b = 0 then nlL r w ps b ps.length else []) = xs at s1 s2 hxl
  generalize nlK r w ps b = x at s1 s2
  unfold pqD at s1 s2 s3
  rw [← eT] at s1 s2 s3
  have hz : ¬ (1048576 : Int) - ps.length < 0 := by omega
  refine sat_of_wp hMix tOk Try.func3 rfl rfl Try.ntmps3 rfl rfl Try.results3 (by kernel_rfl) ?_
  conv => whnf
  repeat (first | (refine go_E60 ?_; conv => whnf) | (refine lk_E60 ?_; conv => whnf))
  first | refine ⟨_, _, rfl, sc_E60 (szPlaceQ_sat ps hps.2 1048576 (by omega) false), ?_⟩ | refine .inl ⟨_, _, rfl, sc_E60 (szPlaceQ_sat ps hps.2 1048576 (by omega) false), ?_⟩
  conv => whnf
  repeat (first | (refine go_E60 ?_; conv => whnf) | (refine lk_E60 ?_; conv => whnf))
  rw [if_neg hz, show decide ((1048576 : Int) - ps.length < 0) = false by simpa using hz]
  conv => whnf
  repeat (first | (refine go_E60 ?_; conv => whnf) | (refine lk_E60 ?_; conv => whnf))
  first | refine ⟨_, _, rfl, sc_E60 (toRoof_sat r), ?_⟩ | refine .inl ⟨_, _, rfl, sc_E60 (toRoof_sat r), ?_⟩
  conv => whnf
  repeat (first | (refine go_E60 ?_; conv => whnf) | (refine lk_E60 ?_; conv => whnf))
  first | refine ⟨_, _, rfl, sc_E60 (toRain_sat w), ?_⟩ | refine .inl ⟨_, _, rfl, sc_E60 (toRain_sat w), ?_⟩
  conv => whnf
  repeat (first | (refine go_E60 ?_; conv => whnf) | (refine lk_E60 ?_; conv => whnf))
  first | refine ⟨_, _, rfl, sc_E60 (toPlaceQ_sat ps hl false), ?_⟩ | refine .inl ⟨_, _, rfl, sc_E60 (toPlaceQ_sat ps hl false), ?_⟩
  conv => whnf
  repeat (first | (refine go_E60 ?_; conv => whnf) | (refine lk_E60 ?_; conv => whnf))
  first | refine ⟨_, _, rfl, sc_E60 (s1), ?_⟩ | refine .inl ⟨_, _, rfl, sc_E60 (s1), ?_⟩
  conv => whnf
  repeat (first | (refine go_E60 ?_; conv => whnf) | (refine lk_E60 ?_; conv => whnf))
  first | refine ⟨_, _, rfl, sc_E60 (toPlaceQ_sat ps hl false), ?_⟩ | refine .inl ⟨_, _, rfl, sc_E60 (toPlaceQ_sat ps hl false), ?_⟩
  conv => whnf
  repeat (first | (refine go_E60 ?_; conv => whnf) | (refine lk_E60 ?_; conv => whnf))
  first | refine ⟨_, _, rfl, sc_E60 (toRoof_sat r), ?_⟩ | refine .inl ⟨_, _, rfl, sc_E60 (toRoof_sat r), ?_⟩
  conv => whnf
  repeat (first | (refine go_E60 ?_; conv => whnf) | (refine lk_E60 ?_; conv => whnf))
  first | refine ⟨_, _, rfl, sc_E60 (toRain_sat w), ?_⟩ | refine .inl ⟨_, _, rfl, sc_E60 (toRain_sat w), ?_⟩
  conv => whnf
  repeat (first | (refine go_E60 ?_; conv => whnf) | (refine lk_E60 ?_; conv => whnf))
  first | refine ⟨_, _, rfl, sc_E60 (s2), ?_⟩ | refine .inl ⟨_, _, rfl, sc_E60 (s2), ?_⟩
  conv => whnf
  repeat (first | (refine go_E60 ?_; conv => whnf) | (refine lk_E60 ?_; conv => whnf))
  first | refine ⟨_, _, rfl, sc_E60 (eqInt64S_same xs (by omega) false false), ?_⟩ | refine .inl ⟨_, _, rfl, sc_E60 (eqInt64S_same xs (by omega) false false), ?_⟩
  conv => whnf
  repeat (first | (refine go_E60 ?_; conv => whnf) | (refine lk_E60 ?_; conv => whnf))
  rw [show (x != x) = false by simp]
  conv => whnf
  repeat (first | (refine go_E60 ?_; conv => whnf) | (refine lk_E60 ?_; conv => whnf))
  first | refine ⟨_, _, rfl, sc_E60 (toPlaceQ_sat ps hl false), ?_⟩ | refine .inl ⟨_, _, rfl, sc_E60 (toPlaceQ_sat ps hl false), ?_⟩
  conv => whnf
  repeat (first | (refine go_E60 ?_; conv => whnf) | (refine lk_E60 ?_; conv => whnf))
  first | refine ⟨_, _, rfl, sc_E60 (s3), ?_⟩ | refine .inl ⟨_, _, rfl, sc_E60 (s3), ?_⟩
  conv => whnf
  repeat (first | (refine go_E60 ?_; conv => whnf) | (refine lk_E60 ?_; conv => whnf))
  first | refine ⟨[(37, 0, 0)], _, _, _, _, _, _, _, _, rfl, rfl, rfl, rfl, (sm_E60 (markPlaceS_satM (pqC ps) ps.length (by simp) (by omega) 1 (by omega))), rfl, rfl, rfl, rfl, ?_⟩ | refine .inr ⟨[(37, 0, 0)], _, _, _, _, _, _, _, _, rfl, rfl, rfl, rfl, (sm_E60 (markPlaceS_satM (pqC ps) ps.length (by simp) (by omega) 1 (by omega))), rfl, rfl, rfl, rfl, ?_⟩ | refine ⟨[(37, 0, 0)], _, _, _, _, _, rfl, rfl, rfl, rfl, (sm_E60 (markPlaceS_satM (pqC ps) ps.length (by simp) (by omega) 1 (by omega))), rfl, rfl, ?_⟩
  conv => whnf
  repeat (first | (refine go_E60 ?_; conv => whnf) | (refine lk_E60 ?_; conv => whnf))
  rw [show decide ((1 : Int) + 2 * (ps.length : Int) < 0) = false by simp; omega]
  conv => whnf
  repeat (first | (refine go_E60 ?_; conv => whnf) | (refine lk_E60 ?_; conv => whnf))
  first | refine ⟨_, _, rfl, sc_E60 (eqInt64S_same xs (by omega) false false), ?_⟩ | refine .inl ⟨_, _, rfl, sc_E60 (eqInt64S_same xs (by omega) false false), ?_⟩
  conv => whnf
  repeat (first | (refine go_E60 ?_; conv => whnf) | (refine lk_E60 ?_; conv => whnf))
  rw [show (x != x) = false by simp]
  conv => whnf
  repeat (first | (refine go_E60 ?_; conv => whnf) | (refine lk_E60 ?_; conv => whnf))
  first | refine ⟨[(45, 0, 0)], _, _, _, _, _, _, _, _, rfl, rfl, rfl, rfl, (sm_E60 (markInt64S_satM xs (by omega) 1 (by omega))), rfl, rfl, rfl, rfl, ?_⟩ | refine .inr ⟨[(45, 0, 0)], _, _, _, _, _, _, _, _, rfl, rfl, rfl, rfl, (sm_E60 (markInt64S_satM xs (by omega) 1 (by omega))), rfl, rfl, rfl, rfl, ?_⟩ | refine ⟨[(45, 0, 0)], _, _, _, _, _, rfl, rfl, rfl, rfl, (sm_E60 (markInt64S_satM xs (by omega) 1 (by omega))), rfl, rfl, ?_⟩
  conv => whnf
  repeat (first | (refine go_E60 ?_; conv => whnf) | (refine lk_E60 ?_; conv => whnf))
  first | refine ⟨_, _, rfl, sc_E60 (heldInt64S_sat xs.length (by omega) 1 (by omega) false), ?_⟩ | refine .inl ⟨_, _, rfl, sc_E60 (heldInt64S_sat xs.length (by omega) 1 (by omega) false), ?_⟩
  conv => whnf
  repeat (first | (refine go_E60 ?_; conv => whnf) | (refine lk_E60 ?_; conv => whnf))
  rw [show (1 + (xs.length : Int) != 1 + (xs.length : Int)) = false by simp]
  conv => whnf
  repeat (first | (refine go_E60 ?_; conv => whnf) | (refine lk_E60 ?_; conv => whnf))
  first | refine ⟨_, _, rfl, sc_E60 (toRoof_sat r), ?_⟩ | refine .inl ⟨_, _, rfl, sc_E60 (toRoof_sat r), ?_⟩
  conv => whnf
  repeat (first | (refine go_E60 ?_; conv => whnf) | (refine lk_E60 ?_; conv => whnf))
  first | refine ⟨_, _, rfl, sc_E60 (toRain_sat w), ?_⟩ | refine .inl ⟨_, _, rfl, sc_E60 (toRain_sat w), ?_⟩
  conv => whnf
  repeat (first | (refine go_E60 ?_; conv => whnf) | (refine lk_E60 ?_; conv => whnf))
  first | refine ⟨_, _, rfl, sc_E60 (toPlaceQ_sat ps hl false), ?_⟩ | refine .inl ⟨_, _, rfl, sc_E60 (toPlaceQ_sat ps hl false), ?_⟩
  conv => whnf
  repeat (first | (refine go_E60 ?_; conv => whnf) | (refine lk_E60 ?_; conv => whnf))
  first | refine ⟨_, _, rfl, sc_E60 (s2), ?_⟩ | refine .inl ⟨_, _, rfl, sc_E60 (s2), ?_⟩
  conv => whnf
  repeat (first | (refine go_E60 ?_; conv => whnf) | (refine lk_E60 ?_; conv => whnf))
  first | refine ⟨_, _, rfl, sc_E60 (eqInt64S_same xs (by omega) false false), ?_⟩ | refine .inl ⟨_, _, rfl, sc_E60 (eqInt64S_same xs (by omega) false false), ?_⟩
  conv => whnf
  repeat (first | (refine go_E60 ?_; conv => whnf) | (refine lk_E60 ?_; conv => whnf))
  rw [show (x != x) = false by simp]
  conv => whnf
  repeat (first | (refine go_E60 ?_; conv => whnf) | (refine lk_E60 ?_; conv => whnf))
  first | refine ⟨_, _, rfl, sc_E60 (heldInt64S_sat xs.length (by omega) 1 (by omega) false), ?_⟩ | refine .inl ⟨_, _, rfl, sc_E60 (heldInt64S_sat xs.length (by omega) 1 (by omega) false), ?_⟩
  conv => whnf
  repeat (first | (refine go_E60 ?_; conv => whnf) | (refine lk_E60 ?_; conv => whnf))
  rw [show (1 + (xs.length : Int) != 1 + (xs.length : Int)) = false by simp]
  conv => whnf
  repeat (first | (refine go_E60 ?_; conv => whnf) | (refine lk_E60 ?_; conv => whnf))
  first | refine ⟨rfl, _, rfl, ?_⟩ | refine ⟨_, rfl, ?_⟩
  rfl
end Go.Proofs.Ytejncabmppobfaa
