import Derived.Test.YtcnenmcagkbppaaP1
set_option linter.unusedVariables false
set_option linter.unusedSimpArgs false
/- Contracts: where water flows, a minute, and several, both sides; the laws. -/
set_option linter.unusedVariables false
set_option linter.unusedSimpArgs false
namespace Go.V
/- Words for the walks of this text: their default arguments are tried where they are used. -/
theorem go_D5 {P Q : Prop} (k : Q) (h : P := by first | exact Nat.le_of_ble_eq_true rfl | exact rfl | decide | omega | (simp [splice]; done) | (constructor <;> omega) | (simp [splice]; omega)) : P ∧ Q := ⟨h, k⟩
theorem lk_D5 {α : Type} {o : Option α} {K : α → Prop} {x : α} (k : K x) (h : o = some x := by first | exact watA (by omega) | exact watA' (by omega) | exact hDA (by omega) | exact hDA' (by omega) | exact gutA (by omega) | exact pipeA (by omega) | exact pipeB (by omega) | exact pipeSA (by omega) | exact pipeSB (by omega) | exact intA (by omega) | exact intA' (by omega)) : optK o K := optK_of h k
theorem sc_D5 {P : Program} {g : FuncId} {args args' : List D} {res : D} (h : Sat P g args res) (e : args' = args := by repeat (first | rfl | exact vfull (by first | (simp [splice]; done) | (simp [splice]; omega)) | exact rfull (by first | (simp [splice]; done) | (simp [splice]; omega)) | exact vpipe (by simp; done) (by omega) | exact vsplice (by simp) (by simp) | refine ceq ?_ ?_ | refine Eq.trans (vsplice (by first | (simp; done) | (simp; omega)) (by first | (simp; done) | (simp; omega))) ?_)) : Sat P g args' res := Sat.of_eq h e
theorem leaf_D5 {P : Prop} (h : P := by first | rfl | exact succ8 (by omega) | exact succ64 (by omega) | exact CapOk.fn (by assumption) _ _ | exact vintS (by omega) | exact vintS (by rw [w64 (by omega) (by omega)]; omega) | exact vintS (by rw [w8 (by omega) (by omega)]; omega) | exact vslcS (by omega) | exact vslcS (by simp)) : P := h
theorem hold_D5 {P : Prop} (h : P := by (repeat' (first | exact trivial | apply And.intro)) <;> (first | rfl | exact succ8 (by omega) | exact succ64 (by omega) | exact CapOk.fn (by assumption) _ _ | exact vintS (by omega) | exact vintS (by rw [w64 (by omega) (by omega)]; omega) | exact vintS (by rw [w8 (by omega) (by omega)]; omega) | exact vslcS (by omega) | exact vslcS (by simp))) : P := h
theorem okt_D5 {P : Prop} (h : P := by first | omega | (dsimp only; omega) | ((repeat' apply And.intro) <;> omega) | (dsimp only; (repeat' apply And.intro) <;> omega) | trivial) : P := h
end Go.V
namespace Go.Proofs.Ytcnenmcagkbppaa
open Go.V
theorem l06Leaf_sat (g : Gut) (c : Nat) (hc : c < 17) : Sat Try.prog 79 [.ref false (gutD false g) 0, .v (.int .i64 c)] (.v (.bool (leafB g c))) := by
  have eu : IntKind.u64.wrap (c : Int) = (c : Int) := wu64 (by omega) (by omega)
  refine sat_of_wp hMix tOk Try.func79 rfl rfl Try.ntmps79 rfl rfl Try.results79 (by kernel_rfl) ?_
  conv => whnf
  repeat (first | (refine go_D5 ?_; conv => whnf) | (refine lk_D5 ?_; conv => whnf))
  rw [eu]
  repeat (first | (refine go_D5 ?_; conv => whnf) | (refine lk_D5 ?_; conv => whnf))
  first | refine ⟨rfl, _, rfl, ?_⟩ | refine ⟨_, rfl, ?_⟩
  rfl
theorem hasLeaves_sat (g : Gut) (c : Nat) (hc : c < 17) : Sat Try.prog 72 [gutD false g, .v (.int .i64 c)] (.v (.bool (leafB g c))) := by
  refine sat_of_wp hMix tOk Try.func72 rfl rfl Try.ntmps72 rfl rfl Try.results72 (by kernel_rfl) ?_
  conv => whnf
  repeat (first | (refine go_D5 ?_; conv => whnf) | (refine lk_D5 ?_; conv => whnf))
  first | refine ⟨rfl, _, rfl, ?_⟩ | refine ⟨_, rfl, ?_⟩
  rfl
theorem l06Pipe_sat (g : Gut) (hg : g.In) (hl : g.ps.length ≤ 4) (c : Nat) (hc : c < 17) : Sat Try.prog 46 [.ref false (gutD false g) 0, .v (.int .i64 c)] (.v (.bool (hasB g c))) := by
  refine sat_of_wp hMix tOk Try.func46 rfl rfl Try.ntmps46 rfl rfl Try.results46 (by kernel_rfl) ?_
  conv => whnf
  repeat (first | (refine go_D5 ?_; conv => whnf) | (refine lk_D5 ?_; conv => whnf))
  refine loop_rule (α := Nat) (fun i => [(0, .ref false (gutD false g) 0), (1, .v (.int .i64 c)), (5, .v (.int .i64 i))]) (fun i => []) (fun i => i ≤ g.ps.length ∧ ∀ j, j < i → ((px g.ps j).1 == (c : Int)) = false) (fun i => g.ps.length - i) (0) ?_ (sim_of (rn := []) rfl ?_ ?_) ?_
  · exact ⟨Nat.zero_le _, fun j hj => by omega⟩
  · exact hold_D5
  · ((repeat' (first | exact trivial | apply And.intro)) <;> ((first | refine ⟨_, _, rfl, rfl, ?_⟩ ); rfl))
  rintro i ⟨hi, hall⟩
  conv => whnf
  repeat (first | (refine go_D5 ?_; conv => whnf) | (refine lk_D5 ?_; conv => whnf))
  cases h5 : decide ((i : Int) < (g.ps.length : Int))
  · have hin : i = g.ps.length := by simp at h5; omega
    subst hin
    rw [show hasB g c = false from anyN_none hall]
    conv => whnf
    repeat (first | (refine go_D5 ?_; conv => whnf) | (refine lk_D5 ?_; conv => whnf))
    first | refine ⟨rfl, _, rfl, ?_⟩ | refine ⟨_, rfl, ?_⟩
    rfl
  have hin : i < g.ps.length := by simpa using h5
  have hp := hg.ps i hin
  have ea : IntKind.i64.wrap (px g.ps i).1 = (px g.ps i).1 := w64 (by omega) (by omega)
  conv => whnf
  repeat (first | (refine go_D5 ?_; conv => whnf) | (refine lk_D5 ?_; conv => whnf))
  rw [ea]
  cases h6 : ((px g.ps i).1 == (c : Int))
  · have hall' := below_succ (p := fun j => ((px g.ps j).1 == (c : Int)) = false) hall h6
    conv => whnf
    repeat (first | (refine go_D5 ?_; conv => whnf) | (refine lk_D5 ?_; conv => whnf))
    refine ⟨i + 1, ?_, ?_, sim_of (rn := []) rfl ?_ ?_⟩
    · (dsimp only; omega)
    · exact ⟨by omega, hall'⟩
    · exact hold_D5
    · ((repeat' (first | exact trivial | apply And.intro)) <;> ((first | refine ⟨_, _, rfl, rfl, ?_⟩ ); rfl))
  rw [show hasB g c = true from anyN_some hin h6]
  conv => whnf
  repeat (first | (refine go_D5 ?_; conv => whnf) | (refine lk_D5 ?_; conv => whnf))
  first | refine ⟨rfl, _, rfl, ?_⟩ | refine ⟨_, rfl, ?_⟩
  rfl
theorem hasPipe1_sat (q : Int × Int) (hq : -128 ≤ q.1 ∧ q.1 ≤ 127) (c : Nat) (hc : c < 17) : Sat Try.prog 89 [pipeD q, .ref false (.v (.agg ⟨[.int .i64 c]⟩)) 0] (.v (.bool (q.1 == (c : Int)))) := by
  refine sat_of_wp hMix tOk Try.func89 rfl rfl Try.ntmps89 rfl rfl Try.results89 (by kernel_rfl) ?_
  conv => whnf
  repeat (first | (refine go_D5 ?_; conv => whnf) | (refine lk_D5 ?_; conv => whnf))
  rw [show IntKind.i64.wrap q.1 = q.1 from w64 (by omega) (by omega)]
  first | refine ⟨rfl, _, rfl, ?_⟩ | refine ⟨_, rfl, ?_⟩
  rfl
theorem indexP_sat (g : Gut) (hg : g.In) (hl : g.ps.length ≤ 4) (c : Nat) (hc : c < 17) (m : Bool) :
    Sat Try.prog 95 [pipesD m g.ps, .fn (.func 89) [] [.ref false (.v (.agg ⟨[.int .i64 c]⟩)) 0]] (.v (.int .i64 (idxN g.ps.length fun i => (px g.ps i).1 == (c : Int)))) := by
  refine sat_of_wp hMix tOk Try.func95 rfl rfl Try.ntmps95 rfl rfl Try.results95 (by kernel_rfl) ?_
  conv => whnf
  repeat (first | (refine go_D5 ?_; conv => whnf) | (refine lk_D5 ?_; conv => whnf))
  refine loop_rule (α := Nat) (fun i => [(0, pipesD m g.ps), (1, .fn (.func 89) [] [.ref false (.v (.agg ⟨[.int .i64 c]⟩)) 0]), (7, .v (.int .i64 g.ps.length)), (8, .v (.int .i64 i))]) (fun i => []) (fun i => i ≤ g.ps.length ∧ ∀ j, j < i → ((px g.ps j).1 == (c : Int)) = false) (fun i => g.ps.length - i) (0) ?_ (sim_of (rn := []) rfl ?_ ?_) ?_
  · exact ⟨Nat.zero_le _, fun j hj => by omega⟩
  · exact hold_D5
  · ((repeat' (first | exact trivial | apply And.intro)) <;> ((first | refine ⟨_, _, rfl, rfl, ?_⟩ ); rfl))
  rintro i ⟨hi, hall⟩
  conv => whnf
  repeat (first | (refine go_D5 ?_; conv => whnf) | (refine lk_D5 ?_; conv => whnf))
  cases h : decide ((i : Int) < (g.ps.length : Int))
  · have hin : i = g.ps.length := by simp at h; omega
    subst hin
    rw [idxN_none hall]
    conv => whnf
    repeat (first | (refine go_D5 ?_; conv => whnf) | (refine lk_D5 ?_; conv => whnf))
    first | refine ⟨rfl, _, rfl, ?_⟩ | refine ⟨_, rfl, ?_⟩
    rfl
  have hin : i < g.ps.length := by simpa using h
  conv => whnf
  repeat (first | (refine go_D5 ?_; conv => whnf) | (refine lk_D5 ?_; conv => whnf))
  first | refine ⟨_, _, rfl, sc_D5 (hasPipe1_sat (px g.ps i) (hg.ps i hin).1 c hc), ?_⟩ | refine .inl ⟨_, _, rfl, sc_D5 (hasPipe1_sat (px g.ps i) (hg.ps i hin).1 c hc), ?_⟩
  conv => whnf
  repeat (first | (refine go_D5 ?_; conv => whnf) | (refine lk_D5 ?_; conv => whnf))
  cases h5 : ((px g.ps i).1 == (c : Int))
  · have hall' := below_succ (p := fun j => ((px g.ps j).1 == (c : Int)) = false) hall h5
    conv => whnf
    repeat (first | (refine go_D5 ?_; conv => whnf) | (refine lk_D5 ?_; conv => whnf))
    refine ⟨i + 1, ?_, ?_, sim_of (rn := []) rfl ?_ ?_⟩
    · (dsimp only; omega)
    · exact ⟨by omega, hall'⟩
    · exact hold_D5
    · ((repeat' (first | exact trivial | apply And.intro)) <;> ((first | refine ⟨_, _, rfl, rfl, ?_⟩ ); rfl))
  rw [idxN_some hin h5 hall]
  conv => whnf
  repeat (first | (refine go_D5 ?_; conv => whnf) | (refine lk_D5 ?_; conv => whnf))
  first | refine ⟨rfl, _, rfl, ?_⟩ | refine ⟨_, rfl, ?_⟩
  rfl
theorem hasPipe_sat (g : Gut) (hg : g.In) (hl : g.ps.length ≤ 4) (c : Nat) (hc : c < 17) : Sat Try.prog 44 [gutD false g, .v (.int .i64 c)] (.v (.bool (hasB g c))) := by
  have h0 : Sat Try.prog 88 [pipesD false g.ps, .fn (.func 89) [] [.ref false (.v (.agg ⟨[.int .i64 c]⟩)) 0]] (.v (.bool (hasB g c))) := by
    refine sat_of_wp hMix tOk Try.func88 rfl rfl Try.ntmps88 rfl rfl Try.results88 (by kernel_rfl) ?_
    conv => whnf
    repeat (first | (refine go_D5 ?_; conv => whnf) | (refine lk_D5 ?_; conv => whnf))
    first | refine ⟨_, _, rfl, sc_D5 (indexP_sat g hg hl c hc false), ?_⟩ | refine .inl ⟨_, _, rfl, sc_D5 (indexP_sat g hg hl c hc false), ?_⟩
    conv => whnf
    repeat (first | (refine go_D5 ?_; conv => whnf) | (refine lk_D5 ?_; conv => whnf))
    first | refine ⟨rfl, _, rfl, ?_⟩ | refine ⟨_, rfl, ?_⟩
    skip
    rw [show hasB g c = decide (idxN g.ps.length (fun i => (px g.ps i).1 == (c : Int)) ≥ 0) from (idxN_any _ _).symm]; rfl
  refine sat_of_wp hMix tOk Try.func44 rfl rfl Try.ntmps44 rfl rfl Try.results44 (by kernel_rfl) ?_
  conv => whnf
  repeat (first | (refine go_D5 ?_; conv => whnf) | (refine lk_D5 ?_; conv => whnf))
  first | refine ⟨_, _, rfl, sc_D5 (h0), ?_⟩ | refine .inl ⟨_, _, rfl, sc_D5 (h0), ?_⟩
  conv => whnf
  repeat (first | (refine go_D5 ?_; conv => whnf) | (refine lk_D5 ?_; conv => whnf))
  first | refine ⟨rfl, _, rfl, ?_⟩ | refine ⟨_, rfl, ?_⟩
  rfl
theorem l06To_sat (g : Gut) (hg : g.In) (ho : g.Ok) (c : Nat) (hc : (c : Int) < g.n) : Sat Try.prog 40 [.ref false (gutD false g) 0, .v (.int .i64 c)] (.v (.int .i64 (toP g c))) := by
  have hn := ho.n
  have en : IntKind.i64.wrap g.n = g.n := w64 (by omega) (by omega)
  have e1 : IntKind.i64.wrap ((c : Int) + 1) = ((c + 1 : Nat) : Int) := by rw [w64 (by omega) (by omega)]; omega
  refine sat_of_wp hMix tOk Try.func40 rfl rfl Try.ntmps40 rfl rfl Try.results40 (by kernel_rfl) ?_
  conv => whnf
  repeat (first | (refine go_D5 ?_; conv => whnf) | (refine lk_D5 ?_; conv => whnf))
  first | refine ⟨_, _, rfl, sc_D5 (l06Leaf_sat g c (by omega)), ?_⟩ | refine .inl ⟨_, _, rfl, sc_D5 (l06Leaf_sat g c (by omega)), ?_⟩
  conv => whnf
  repeat (first | (refine go_D5 ?_; conv => whnf) | (refine lk_D5 ?_; conv => whnf))
  cases h1 : leafB g c
  case true =>
    rw [show toP g c = -1 by unfold toP; rw [h1]; rfl]
    conv => whnf
    repeat (first | (refine go_D5 ?_; conv => whnf) | (refine lk_D5 ?_; conv => whnf))
    first | refine ⟨rfl, _, rfl, ?_⟩ | refine ⟨_, rfl, ?_⟩
    rfl
  conv => whnf
  repeat (first | (refine go_D5 ?_; conv => whnf) | (refine lk_D5 ?_; conv => whnf))
  first | refine ⟨_, _, rfl, sc_D5 (l06Pipe_sat g hg ho.len c (by omega)), ?_⟩ | refine .inl ⟨_, _, rfl, sc_D5 (l06Pipe_sat g hg ho.len c (by omega)), ?_⟩
  conv => whnf
  repeat (first | (refine go_D5 ?_; conv => whnf) | (refine lk_D5 ?_; conv => whnf))
  cases h2 : hasB g c
  case true =>
    rw [show toP g c = -1 by unfold toP; rw [h1, h2]; rfl]
    conv => whnf
    repeat (first | (refine go_D5 ?_; conv => whnf) | (refine lk_D5 ?_; conv => whnf))
    first | refine ⟨rfl, _, rfl, ?_⟩ | refine ⟨_, rfl, ?_⟩
    rfl
  have ht : toP g c = if lowL g c = true then (if (c : Int) + 1 < g.n ∧ g.h (c + 1) < g.h (c - 1) then (c : Int) + 1 else (c : Int) - 1)
    else (if (c : Int) + 1 < g.n ∧ g.h (c + 1) < g.h c then (c : Int) + 1 else -1) := by unfold toP; rw [h1, h2]; rfl
  rw [ht]
  conv => whnf
  repeat (first | (refine go_D5 ?_; conv => whnf) | (refine lk_D5 ?_; conv => whnf))
  cases h3 : decide ((c : Int) > 0)
  · have hc0 : c = 0 := by simp at h3; omega
    rw [show lowL g c = false by unfold lowL; rw [show decide (0 < c) = false by simp; omega]; rfl, if_neg (by decide)]
    conv => whnf
    repeat (first | (refine go_D5 ?_; conv => whnf) | (refine lk_D5 ?_; conv => whnf))
    rw [e1, en]
    cases h5 : decide (((c + 1 : Nat) : Int) < g.n)
    · rw [if_neg (by simp at h5; omega)]
      conv => whnf
      repeat (first | (refine go_D5 ?_; conv => whnf) | (refine lk_D5 ?_; conv => whnf))
      first | refine ⟨rfl, _, rfl, ?_⟩ | refine ⟨_, rfl, ?_⟩
      rfl
    have h5' : ((c + 1 : Nat) : Int) < g.n := by simpa using h5
    conv => whnf
    repeat (first | (refine go_D5 ?_; conv => whnf) | (refine lk_D5 ?_; conv => whnf))
    rw [e1]
    repeat (first | (refine go_D5 ?_; conv => whnf) | (refine lk_D5 ?_; conv => whnf))
    cases h6 : decide (g.h (c + 1) < g.h c)
    · rw [if_neg (by simp at h6; omega)]
      conv => whnf
      repeat (first | (refine go_D5 ?_; conv => whnf) | (refine lk_D5 ?_; conv => whnf))
      first | refine ⟨rfl, _, rfl, ?_⟩ | refine ⟨_, rfl, ?_⟩
      rfl
    rw [if_pos (by simp at h6; omega)]
    conv => whnf
    repeat (first | (refine go_D5 ?_; conv => whnf) | (refine lk_D5 ?_; conv => whnf))
    first | refine ⟨rfl, _, rfl, ?_⟩ | refine ⟨_, rfl, ?_⟩
    skip
    rw [e1]; rfl
  have hc0 : 0 < c := by simp at h3; omega
  have e0 : IntKind.i64.wrap ((c : Int) - 1) = ((c - 1 : Nat) : Int) := by rw [w64 (by omega) (by omega)]; omega
  conv => whnf
  repeat (first | (refine go_D5 ?_; conv => whnf) | (refine lk_D5 ?_; conv => whnf))
  rw [e0]
  repeat (first | (refine go_D5 ?_; conv => whnf) | (refine lk_D5 ?_; conv => whnf))
  cases h4 : decide (g.h (c - 1) < g.h c)
  · rw [show lowL g c = false by unfold lowL; rw [h4, Bool.and_false], if_neg (by decide)]
    conv => whnf
    repeat (first | (refine go_D5 ?_; conv => whnf) | (refine lk_D5 ?_; conv => whnf))
    rw [e1, en]
    cases h5 : decide (((c + 1 : Nat) : Int) < g.n)
    · rw [if_neg (by simp at h5; omega)]
      conv => whnf
      repeat (first | (refine go_D5 ?_; conv => whnf) | (refine lk_D5 ?_; conv => whnf))
      first | refine ⟨rfl, _, rfl, ?_⟩ | refine ⟨_, rfl, ?_⟩
      rfl
    have h5' : ((c + 1 : Nat) : Int) < g.n := by simpa using h5
    conv => whnf
    repeat (first | (refine go_D5 ?_; conv => whnf) | (refine lk_D5 ?_; conv => whnf))
    rw [e1]
    repeat (first | (refine go_D5 ?_; conv => whnf) | (refine lk_D5 ?_; conv => whnf))
    cases h6 : decide (g.h (c + 1) < g.h c)
    · rw [if_neg (by simp at h6; omega)]
      conv => whnf
      repeat (first | (refine go_D5 ?_; conv => whnf) | (refine lk_D5 ?_; conv => whnf))
      first | refine ⟨rfl, _, rfl, ?_⟩ | refine ⟨_, rfl, ?_⟩
      rfl
    rw [if_pos (by simp at h6; omega)]
    conv => whnf
    repeat (first | (refine go_D5 ?_; conv => whnf) | (refine lk_D5 ?_; conv => whnf))
    first | refine ⟨rfl, _, rfl, ?_⟩ | refine ⟨_, rfl, ?_⟩
    skip
    rw [e1]; rfl
  rw [show lowL g c = true by unfold lowL; rw [h4, show decide (0 < c) = true by simp; omega]; rfl, if_pos rfl]
  conv => whnf
  repeat (first | (refine go_D5 ?_; conv => whnf) | (refine lk_D5 ?_; conv => whnf))
  rw [e0]
  repeat (first | (refine go_D5 ?_; conv => whnf) | (refine lk_D5 ?_; conv => whnf))
  rw [e1, en]
  cases h5 : decide (((c + 1 : Nat) : Int) < g.n)
  · rw [if_neg (by simp at h5; omega)]
    conv => whnf
    repeat (first | (refine go_D5 ?_; conv => whnf) | (refine lk_D5 ?_; conv => whnf))
    first | refine ⟨rfl, _, rfl, ?_⟩ | refine ⟨_, rfl, ?_⟩
    skip
    rw [show ((c - 1 : Nat) : Int) = (c : Int) - 1 by omega]; rfl
  have h5' : ((c + 1 : Nat) : Int) < g.n := by simpa using h5
  conv => whnf
  repeat (first | (refine go_D5 ?_; conv => whnf) | (refine lk_D5 ?_; conv => whnf))
  rw [e1]
  repeat (first | (refine go_D5 ?_; conv => whnf) | (refine lk_D5 ?_; conv => whnf))
  cases h6 : decide (g.h (c + 1) < g.h (c - 1))
  · rw [if_neg (by simp at h6; omega)]
    conv => whnf
    repeat (first | (refine go_D5 ?_; conv => whnf) | (refine lk_D5 ?_; conv => whnf))
    first | refine ⟨rfl, _, rfl, ?_⟩ | refine ⟨_, rfl, ?_⟩
    skip
    rw [show ((c - 1 : Nat) : Int) = (c : Int) - 1 by omega]; rfl
  rw [if_pos (by simp at h6; omega)]
  conv => whnf
  repeat (first | (refine go_D5 ?_; conv => whnf) | (refine lk_D5 ?_; conv => whnf))
  first | refine ⟨rfl, _, rfl, ?_⟩ | refine ⟨_, rfl, ?_⟩
  skip
  rw [e1]; rfl
def bestF (g : Gut) (c : Nat) : Nat → Int
  | 0 => -1
  | 1 => if lowL g c = true then (c : Int) - 1 else -1
  | _ => toP g c
theorem flowsTo_sat (g : Gut) (hg : g.In) (ho : g.Ok) (c : Nat) (hc : (c : Int) < g.n) : Sat Try.prog 38 [gutD false g, .v (.int .i64 c)] (.v (.int .i64 (toP g c))) := by
  have hn := ho.n
  have en : IntKind.i64.wrap g.n = g.n := w64 (by omega) (by omega)
  have en1 : IntKind.i64.wrap (g.n - 1) = g.n - 1 := w64 (by omega) (by omega)
  have e1 : IntKind.i64.wrap ((c : Int) + 1) = (c : Int) + 1 := w64 (by omega) (by omega)
  have e0 : IntKind.i64.wrap ((c : Int) - 1) = (c : Int) - 1 := w64 (by omega) (by omega)
  refine sat_of_wp hMix tOk Try.func38 rfl rfl Try.ntmps38 rfl rfl Try.results38 (by kernel_rfl) ?_
  conv => whnf
  repeat (first | (refine go_D5 ?_; conv => whnf) | (refine lk_D5 ?_; conv => whnf))
  first | refine ⟨_, _, rfl, sc_D5 (hasLeaves_sat g c (by omega)), ?_⟩ | refine .inl ⟨_, _, rfl, sc_D5 (hasLeaves_sat g c (by omega)), ?_⟩
  conv => whnf
  repeat (first | (refine go_D5 ?_; conv => whnf) | (refine lk_D5 ?_; conv => whnf))
  cases h1 : leafB g c
  case true =>
    rw [show toP g c = -1 by unfold toP; rw [h1]; rfl]
    conv => whnf
    repeat (first | (refine go_D5 ?_; conv => whnf) | (refine lk_D5 ?_; conv => whnf))
    first | refine ⟨rfl, _, rfl, ?_⟩ | refine ⟨_, rfl, ?_⟩
    rfl
  conv => whnf
  repeat (first | (refine go_D5 ?_; conv => whnf) | (refine lk_D5 ?_; conv => whnf))
  first | refine ⟨_, _, rfl, sc_D5 (hasPipe_sat g hg ho.len c (by omega)), ?_⟩ | refine .inl ⟨_, _, rfl, sc_D5 (hasPipe_sat g hg ho.len c (by omega)), ?_⟩
  conv => whnf
  repeat (first | (refine go_D5 ?_; conv => whnf) | (refine lk_D5 ?_; conv => whnf))
  cases h2 : hasB g c
  case true =>
    rw [show toP g c = -1 by unfold toP; rw [h1, h2]; rfl]
    conv => whnf
    repeat (first | (refine go_D5 ?_; conv => whnf) | (refine lk_D5 ?_; conv => whnf))
    first | refine ⟨rfl, _, rfl, ?_⟩ | refine ⟨_, rfl, ?_⟩
    rfl
  have ht : toP g c = if lowL g c = true then (if (c : Int) + 1 < g.n ∧ g.h (c + 1) < g.h (c - 1) then (c : Int) + 1 else (c : Int) - 1)
    else (if (c : Int) + 1 < g.n ∧ g.h (c + 1) < g.h c then (c : Int) + 1 else -1) := by unfold toP; rw [h1, h2]; rfl
  have b1 : ∀ x : Int, (if lowL g c = true then (c : Int) - 1 else -1) = x → bestF g c (0 + 1) = x := fun x h => h
  have b2 : ∀ x : Int, toP g c = x → bestF g c (1 + 1) = x := fun x h => h
  conv => whnf
  repeat (first | (refine go_D5 ?_; conv => whnf) | (refine lk_D5 ?_; conv => whnf))
  refine loop_rule (α := Nat) (fun i => [(1, .v (.int .i64 c)), (2, .ptr (2, 0, 0) 0), (5, .v (.int .i64 (bestF g c i))), (21, .slc true 1 (21, 0, 0) 0 2), (22, .v (.int .i64 2)), (23, .v (.int .i64 i))]) (fun i => [((2, 0, 0), gutD false g), ((21, 0, 0), .v (.agg ⟨[.int .i64 ((c : Int) - 1), .int .i64 ((c : Int) + 1)]⟩))]) (fun i => i ≤ 2) (fun i => 2 - i) (0) ?_ (sim_of (rn := [((2, 0, 0), (2, 0, 0)), ((21, 0, 0), (21, 0, 0))]) rfl ?_ ?_) ?_
  · exact okt_D5
  · exact hold_D5
  · ((repeat' (first | exact trivial | apply And.intro)) <;> ((first | refine ⟨_, _, rfl, rfl, ?_⟩ ); first | rfl | (exact cset (by rw [e0, e1]))))
  intro i hi
  conv => whnf
  repeat (first | (refine go_D5 ?_; conv => whnf) | (refine lk_D5 ?_; conv => whnf))
  have hi3 : i = 0 ∨ i = 1 ∨ i = 2 := by omega
  rcases hi3 with rfl | rfl | rfl
  · have l0 : lowL g c = false → bestF g c (0 + 1) = bestF g c 0 := fun h => by rw [b1 (-1) (by rw [h]; rfl)]; rfl
    conv => whnf
    repeat (first | (refine go_D5 ?_; conv => whnf) | (refine lk_D5 ?_; conv => whnf))
    rw [en, en1]
    first | refine ⟨_, _, rfl, sc_D5 (withinInt_sat _ _ _), ?_⟩ | refine .inl ⟨_, _, rfl, sc_D5 (withinInt_sat _ _ _), ?_⟩
    conv => whnf
    repeat (first | (refine go_D5 ?_; conv => whnf) | (refine lk_D5 ?_; conv => whnf))
    cases h3 : (decide (0 ≤ (c : Int) - 1) && decide ((c : Int) - 1 ≤ g.n - 1))
    · have hb := l0 (by unfold lowL; rw [show decide (0 < c) = false by simp at h3 ⊢; omega]; rfl)
      conv => whnf
      repeat (first | (refine go_D5 ?_; conv => whnf) | (refine lk_D5 ?_; conv => whnf))
      refine ⟨0 + 1, ?_, ?_, sim_of (rn := [((2, 0, 0), (2, 0, 0)), ((21, 0, 0), (21, 0, 0))]) rfl ?_ ?_⟩
      · (dsimp only; omega)
      · exact okt_D5
      · ((repeat' (first | exact trivial | apply And.intro)) <;> (first | rfl | (exact vintS hb) | exact leaf_D5))
      · ((repeat' (first | exact trivial | apply And.intro)) <;> ((first | refine ⟨_, _, rfl, rfl, ?_⟩ ); rfl))
    have hc0 : 0 < c := by simp at h3; omega
    have ec : (c : Int) - 1 = ((c - 1 : Nat) : Int) := by omega
    conv => whnf
    repeat (first | (refine go_D5 ?_; conv => whnf) | (refine lk_D5 ?_; conv => whnf))
    rw [ec]
    repeat (first | (refine go_D5 ?_; conv => whnf) | (refine lk_D5 ?_; conv => whnf))
    cases h4 : decide (g.h (c - 1) < g.h c)
    · have hb := l0 (by unfold lowL; rw [h4, Bool.and_false])
      conv => whnf
      repeat (first | (refine go_D5 ?_; conv => whnf) | (refine lk_D5 ?_; conv => whnf))
      refine ⟨0 + 1, ?_, ?_, sim_of (rn := [((2, 0, 0), (2, 0, 0)), ((21, 0, 0), (21, 0, 0))]) rfl ?_ ?_⟩
      · (dsimp only; omega)
      · exact okt_D5
      · ((repeat' (first | exact trivial | apply And.intro)) <;> (first | rfl | (exact vintS hb) | exact leaf_D5))
      · ((repeat' (first | exact trivial | apply And.intro)) <;> ((first | refine ⟨_, _, rfl, rfl, ?_⟩ ); rfl))
    have hb := b1 ((c - 1 : Nat) : Int) (by rw [show lowL g c = true by unfold lowL; rw [h4, show decide (0 < c) = true by simp; omega]; rfl, if_pos rfl]; omega)
    conv => whnf
    repeat (first | (refine go_D5 ?_; conv => whnf) | (refine lk_D5 ?_; conv => whnf))
    refine ⟨0 + 1, ?_, ?_, sim_of (rn := [((2, 0, 0), (2, 0, 0)), ((21, 0, 0), (21, 0, 0))]) rfl ?_ ?_⟩
    · (dsimp only; omega)
    · exact okt_D5
    · ((repeat' (first | exact trivial | apply And.intro)) <;> (first | rfl | (exact vintS hb) | exact leaf_D5))
    · ((repeat' (first | exact trivial | apply And.intro)) <;> ((first | refine ⟨_, _, rfl, rfl, ?_⟩ ); first | rfl | ((exact cset (by rw [ec])))))
  · have hnn : ¬ ((c : Int) + 1 < g.n ∧ g.h (c + 1) < g.h c) → bestF g c (1 + 1) = bestF g c 1 := fun h => b2 _ (by
      rw [ht]
      show _ = if lowL g c = true then (c : Int) - 1 else -1
      cases hl : lowL g c
      · rw [if_neg (by decide), if_neg h, if_neg (by decide)]
      · have : g.h (c - 1) < g.h c := by
          unfold lowL at hl
          simp at hl
          exact hl.2
        rw [if_pos rfl, if_neg (by omega), if_pos rfl])
    conv => whnf
    repeat (first | (refine go_D5 ?_; conv => whnf) | (refine lk_D5 ?_; conv => whnf))
    rw [en, en1]
    first | refine ⟨_, _, rfl, sc_D5 (withinInt_sat _ _ _), ?_⟩ | refine .inl ⟨_, _, rfl, sc_D5 (withinInt_sat _ _ _), ?_⟩
    conv => whnf
    repeat (first | (refine go_D5 ?_; conv => whnf) | (refine lk_D5 ?_; conv => whnf))
    cases h3 : (decide (0 ≤ (c : Int) + 1) && decide ((c : Int) + 1 ≤ g.n - 1))
    · have hb := hnn (by simp at h3; omega)
      conv => whnf
      repeat (first | (refine go_D5 ?_; conv => whnf) | (refine lk_D5 ?_; conv => whnf))
      refine ⟨1 + 1, ?_, ?_, sim_of (rn := [((2, 0, 0), (2, 0, 0)), ((21, 0, 0), (21, 0, 0))]) rfl ?_ ?_⟩
      · (dsimp only; omega)
      · exact okt_D5
      · ((repeat' (first | exact trivial | apply And.intro)) <;> (first | rfl | (exact vintS hb) | exact leaf_D5))
      · ((repeat' (first | exact trivial | apply And.intro)) <;> ((first | refine ⟨_, _, rfl, rfl, ?_⟩ ); rfl))
    have hc1 : (c : Int) + 1 < g.n := by simp at h3; omega
    have ec : (c : Int) + 1 = ((c + 1 : Nat) : Int) := by omega
    conv => whnf
    repeat (first | (refine go_D5 ?_; conv => whnf) | (refine lk_D5 ?_; conv => whnf))
    rw [ec]
    repeat (first | (refine go_D5 ?_; conv => whnf) | (refine lk_D5 ?_; conv => whnf))
    cases h4 : decide (g.h (c + 1) < g.h c)
    · have hb := hnn (by simp at h4; omega)
      conv => whnf
      repeat (first | (refine go_D5 ?_; conv => whnf) | (refine lk_D5 ?_; conv => whnf))
      refine ⟨1 + 1, ?_, ?_, sim_of (rn := [((2, 0, 0), (2, 0, 0)), ((21, 0, 0), (21, 0, 0))]) rfl ?_ ?_⟩
      · (dsimp only; omega)
      · exact okt_D5
      · ((repeat' (first | exact trivial | apply And.intro)) <;> (first | rfl | (exact vintS hb) | exact leaf_D5))
      · ((repeat' (first | exact trivial | apply And.intro)) <;> ((first | refine ⟨_, _, rfl, rfl, ?_⟩ ); first | rfl | ((exact cset (by rw [ec])))))
    have h4' : g.h (c + 1) < g.h c := by simpa using h4
    cases hl : lowL g c
    · have hb1 : bestF g c 1 = -1 := by show (if lowL g c = true then (c : Int) - 1 else -1) = -1; rw [hl]; rfl
      have hb := b2 ((c + 1 : Nat) : Int) (by rw [ht, hl, if_neg (by decide), if_pos ⟨hc1, h4'⟩]; omega)
      rw [hb1]
      conv => whnf
      repeat (first | (refine go_D5 ?_; conv => whnf) | (refine lk_D5 ?_; conv => whnf))
      refine ⟨1 + 1, ?_, ?_, sim_of (rn := [((2, 0, 0), (2, 0, 0)), ((21, 0, 0), (21, 0, 0))]) rfl ?_ ?_⟩
      · (dsimp only; omega)
      · exact okt_D5
      · ((repeat' (first | exact trivial | apply And.intro)) <;> (first | rfl | (exact vintS hb) | exact leaf_D5))
      · ((repeat' (first | exact trivial | apply And.intro)) <;> ((first | refine ⟨_, _, rfl, rfl, ?_⟩ ); first | rfl | ((exact cset (by rw [ec])))))
    have hc0 : 0 < c := by unfold lowL at hl; simp at hl; exact hl.1
    have hb1 : bestF g c 1 = ((c - 1 : Nat) : Int) := by show (if lowL g c = true then (c : Int) - 1 else -1) = _; rw [hl, if_pos rfl]; omega
    rw [hb1]
    conv => whnf
    repeat (first | (refine go_D5 ?_; conv => whnf) | (refine lk_D5 ?_; conv => whnf))
    rw [show (((c - 1 : Nat) : Int) == -1) = false by simp]
    conv => whnf
    repeat (first | (refine go_D5 ?_; conv => whnf) | (refine lk_D5 ?_; conv => whnf))
    cases h6 : decide (g.h (c + 1) < g.h (c - 1))
    · have hb := b2 ((c - 1 : Nat) : Int) (by rw [ht, hl, if_pos rfl, if_neg (by simp at h6; omega)]; omega)
      conv => whnf
      repeat (first | (refine go_D5 ?_; conv => whnf) | (refine lk_D5 ?_; conv => whnf))
      refine ⟨1 + 1, ?_, ?_, sim_of (rn := [((2, 0, 0), (2, 0, 0)), ((21, 0, 0), (21, 0, 0))]) rfl ?_ ?_⟩
      · (dsimp only; omega)
      · exact okt_D5
      · ((repeat' (first | exact trivial | apply And.intro)) <;> (first | rfl | (exact vintS (hb.trans hb1.symm)) | exact leaf_D5))
      · ((repeat' (first | exact trivial | apply And.intro)) <;> ((first | refine ⟨_, _, rfl, rfl, ?_⟩ ); first | rfl | ((exact cset (by rw [ec])))))
    have hb := b2 ((c + 1 : Nat) : Int) (by rw [ht, hl, if_pos rfl, if_pos ⟨hc1, by simpa using h6⟩]; omega)
    conv => whnf
    repeat (first | (refine go_D5 ?_; conv => whnf) | (refine lk_D5 ?_; conv => whnf))
    refine ⟨1 + 1, ?_, ?_, sim_of (rn := [((2, 0, 0), (2, 0, 0)), ((21, 0, 0), (21, 0, 0))]) rfl ?_ ?_⟩
    · (dsimp only; omega)
    · exact okt_D5
    · ((repeat' (first | exact trivial | apply And.intro)) <;> (first | rfl | (exact vintS hb) | exact leaf_D5))
    · ((repeat' (first | exact trivial | apply And.intro)) <;> ((first | refine ⟨_, _, rfl, rfl, ?_⟩ ); first | rfl | ((exact cset (by rw [ec])))))
  · conv => whnf
    repeat (first | (refine go_D5 ?_; conv => whnf) | (refine lk_D5 ?_; conv => whnf))
    first | refine ⟨rfl, _, rfl, ?_⟩ | refine ⟨_, rfl, ?_⟩
    rfl
theorem upTo_sat (n : Nat) (hn : n ≤ 1048576) : Sat Try.prog 86 [.v (.int .i64 n)] (intsD true (upL n)) := by
  refine satN_of_wp hMix tOk Try.func86 rfl rfl Try.ntmps86 rfl rfl Try.results86 (by kernel_rfl) ?_
  conv => whnf
  repeat (first | (refine go_D5 ?_; conv => whnf) | (refine lk_D5 ?_; conv => whnf))
  refine loop_rule (α := Nat) (fun i => [(3, .slc true 1 (12, 0, 0) 0 (upL i).length), (5, .v (.int .i64 n)), (6, .v (.int .i64 i))]) (fun i => [((12, 0, 0), .v (.agg ⟨intsC (upL i)⟩))]) (fun i => i ≤ n) (fun i => n - i) (0) ?_ (sim_of (rn := [((12, 0, 0), nilId)]) rfl ?_ ?_) ?_
  · exact okt_D5
  · exact hold_D5
  · ((repeat' (first | exact trivial | apply And.intro)) <;> ((first | refine ⟨_, _, rfl, rfl, ?_⟩ ); first | rfl | ((exact cset intsC_nil.symm))))
  intro i hi
  have hul := upL_len i
  conv => whnf
  repeat (first | (refine go_D5 ?_; conv => whnf) | (refine lk_D5 ?_; conv => whnf))
  cases h : decide ((i : Int) < (n : Int))
  · have hin : i = n := by simp at h; omega
    subst hin
    conv => whnf
    repeat (first | (refine go_D5 ?_; conv => whnf) | (refine lk_D5 ?_; conv => whnf))
    first | refine ⟨rfl, _, rfl, [_], rfl, ?_, rfl⟩ | refine ⟨_, rfl, [_], rfl, ?_, rfl⟩
    ((repeat' (first | exact trivial | apply And.intro)) <;> first | exact .inl rfl | exact .inr ⟨rfl, rfl⟩)
  have hin : i < n := by simpa using h
  conv => whnf
  repeat (first | (refine go_D5 ?_; conv => whnf) | (refine lk_D5 ?_; conv => whnf))
  have e2 : intsC (upL i) ++ [.int .i64 (i : Int)] = intsC (upL (i + 1)) := by rw [upL_next, intsC_append, intsC_one]
  refine ⟨i + 1, ?_, ?_, sim_of (rn := [((12, 0, 0), (12, 1, 0))]) rfl ?_ ?_⟩
  · (dsimp only; omega)
  · exact okt_D5
  · exact hold_D5
  · ((repeat' (first | exact trivial | apply And.intro)) <;> ((first | refine ⟨_, _, rfl, rfl, ?_⟩ ); first | rfl | (exact cset e2)))
theorem gcells_sat (g : Gut) (ho : g.Ok) : Sat Try.prog 36 [gutD false g] (intsD true (upL g.n.toNat)) := by
  have hn := ho.n
  refine sat_of_wp hMix tOk Try.func36 rfl rfl Try.ntmps36 rfl rfl Try.results36 (by kernel_rfl) ?_
  conv => whnf
  repeat (first | (refine go_D5 ?_; conv => whnf) | (refine lk_D5 ?_; conv => whnf))
  rw [show IntKind.i64.wrap g.n = ((g.n.toNat : Nat) : Int) by rw [w64 (by omega) (by omega)]; omega]
  first | refine ⟨_, _, rfl, sc_D5 (upTo_sat g.n.toNat (by omega)), ?_⟩ | refine .inl ⟨_, _, rfl, sc_D5 (upTo_sat g.n.toNat (by omega)), ?_⟩
  conv => whnf
  repeat (first | (refine go_D5 ?_; conv => whnf) | (refine lk_D5 ?_; conv => whnf))
  first | refine ⟨rfl, _, rfl, ?_⟩ | refine ⟨_, rfl, ?_⟩
  rfl
theorem l06Rain_sat (g : Gut) (hg : g.In) (xs : List Int) (hl : xs.length ≤ 1048576) (m : Bool) : Sat Try.prog 68 [.ref false (gutD false g) 0, intsD m xs] (.v (.bool (rainB g xs))) := by
  have hn := hg.n
  have en : IntKind.i64.wrap g.n = g.n := w64 (by omega) (by omega)
  refine sat_of_wp hMix tOk Try.func68 rfl rfl Try.ntmps68 rfl rfl Try.results68 (by kernel_rfl) ?_
  conv => whnf
  repeat (first | (refine go_D5 ?_; conv => whnf) | (refine lk_D5 ?_; conv => whnf))
  refine loop_rule (α := Nat) (fun i => [(0, .ref false (gutD false g) 0), (1, intsD m xs), (5, .v (.int .i64 i))]) (fun i => []) (fun i => i ≤ xs.length ∧ ∀ j, j < i → deepB (ix xs j) = true) (fun i => xs.length - i) (0) ?_ (sim_of (rn := []) rfl ?_ ?_) ?_
  · exact ⟨Nat.zero_le _, fun j hj => by omega⟩
  · exact hold_D5
  · ((repeat' (first | exact trivial | apply And.intro)) <;> ((first | refine ⟨_, _, rfl, rfl, ?_⟩ ); rfl))
  rintro i ⟨hi, hall⟩
  conv => whnf
  repeat (first | (refine go_D5 ?_; conv => whnf) | (refine lk_D5 ?_; conv => whnf))
  cases h : decide ((i : Int) < (xs.length : Int))
  · have hin : i = xs.length := by simp at h; omega
    subst hin
    rw [show rainB g xs = ((xs.length : Int) == g.n) by unfold rainB; rw [allN_iff.2 hall, Bool.and_true]]
    conv => whnf
    repeat (first | (refine go_D5 ?_; conv => whnf) | (refine lk_D5 ?_; conv => whnf))
    first | refine ⟨rfl, _, rfl, ?_⟩ | refine ⟨_, rfl, ?_⟩
    skip
    rw [en]; rfl
  have hin : i < xs.length := by simpa using h
  conv => whnf
  repeat (first | (refine go_D5 ?_; conv => whnf) | (refine lk_D5 ?_; conv => whnf))
  first | refine ⟨_, _, rfl, sc_D5 (l06Deep_sat _), ?_⟩ | refine .inl ⟨_, _, rfl, sc_D5 (l06Deep_sat _), ?_⟩
  conv => whnf
  repeat (first | (refine go_D5 ?_; conv => whnf) | (refine lk_D5 ?_; conv => whnf))
  cases h5 : deepB (ix xs i)
  · rw [show rainB g xs = false by unfold rainB; rw [allN_false hin h5, Bool.and_false]]
    conv => whnf
    repeat (first | (refine go_D5 ?_; conv => whnf) | (refine lk_D5 ?_; conv => whnf))
    first | refine ⟨rfl, _, rfl, ?_⟩ | refine ⟨_, rfl, ?_⟩
    rfl
  have hall' := below_succ (p := fun j => deepB (ix xs j) = true) hall h5
  conv => whnf
  repeat (first | (refine go_D5 ?_; conv => whnf) | (refine lk_D5 ?_; conv => whnf))
  refine ⟨i + 1, ?_, ?_, sim_of (rn := []) rfl ?_ ?_⟩
  · (dsimp only; omega)
  · exact ⟨by omega, hall'⟩
  · exact hold_D5
  · ((repeat' (first | exact trivial | apply And.intro)) <;> ((first | refine ⟨_, _, rfl, rfl, ?_⟩ ); rfl))
theorem notD_sat (x : Int) : Sat Try.prog 97 [.v (.int .i64 x), .ref false (.agg [.fn (.func 56) [] []]) 0] (.v (.bool (!deepB x))) := by
  refine sat_of_wp hMix tOk Try.func97 rfl rfl Try.ntmps97 rfl rfl Try.results97 (by kernel_rfl) ?_
  conv => whnf
  repeat (first | (refine go_D5 ?_; conv => whnf) | (refine lk_D5 ?_; conv => whnf))
  first | refine ⟨_, _, rfl, sc_D5 (isDeep64_sat x), ?_⟩ | refine .inl ⟨_, _, rfl, sc_D5 (isDeep64_sat x), ?_⟩
  conv => whnf
  repeat (first | (refine go_D5 ?_; conv => whnf) | (refine lk_D5 ?_; conv => whnf))
  first | refine ⟨rfl, _, rfl, ?_⟩ | refine ⟨_, rfl, ?_⟩
  rfl
theorem indexD_sat (xs : List Int) (hl : xs.length ≤ 1048576) (m : Bool) :
    Sat Try.prog 99 [intsD m xs, .fn (.func 97) [] [.ref false (.agg [.fn (.func 56) [] []]) 0]] (.v (.int .i64 (idxN xs.length fun i => !deepB (ix xs i)))) := by
  refine sat_of_wp hMix tOk Try.func99 rfl rfl Try.ntmps99 rfl rfl Try.results99 (by kernel_rfl) ?_
  conv => whnf
  repeat (first | (refine go_D5 ?_; conv => whnf) | (refine lk_D5 ?_; conv => whnf))
  refine loop_rule (α := Nat) (fun i => [(0, intsD m xs), (1, .fn (.func 97) [] [.ref false (.agg [.fn (.func 56) [] []]) 0]), (7, .v (.int .i64 xs.length)), (8, .v (.int .i64 i))]) (fun i => []) (fun i => i ≤ xs.length ∧ ∀ j, j < i → deepB (ix xs j) = true) (fun i => xs.length - i) (0) ?_ (sim_of (rn := []) rfl ?_ ?_) ?_
  · exact ⟨Nat.zero_le _, fun j hj => by omega⟩
  · exact hold_D5
  · ((repeat' (first | exact trivial | apply And.intro)) <;> ((first | refine ⟨_, _, rfl, rfl, ?_⟩ ); rfl))
  rintro i ⟨hi, hall⟩
  conv => whnf
  repeat (first | (refine go_D5 ?_; conv => whnf) | (refine lk_D5 ?_; conv => whnf))
  cases h : decide ((i : Int) < (xs.length : Int))
  · have hin : i = xs.length := by simp at h; omega
    subst hin
    rw [idxN_none fun j hj => by rw [hall j hj]; rfl]
    conv => whnf
    repeat (first | (refine go_D5 ?_; conv => whnf) | (refine lk_D5 ?_; conv => whnf))
    first | refine ⟨rfl, _, rfl, ?_⟩ | refine ⟨_, rfl, ?_⟩
    rfl
  have hin : i < xs.length := by simpa using h
  conv => whnf
  repeat (first | (refine go_D5 ?_; conv => whnf) | (refine lk_D5 ?_; conv => whnf))
  first | refine ⟨_, _, rfl, sc_D5 (notD_sat (ix xs i)), ?_⟩ | refine .inl ⟨_, _, rfl, sc_D5 (notD_sat (ix xs i)), ?_⟩
  conv => whnf
  repeat (first | (refine go_D5 ?_; conv => whnf) | (refine lk_D5 ?_; conv => whnf))
  cases h5 : deepB (ix xs i)
  · rw [idxN_some hin (by rw [h5]; rfl) fun j hj => by rw [hall j hj]; rfl]
    conv => whnf
    repeat (first | (refine go_D5 ?_; conv => whnf) | (refine lk_D5 ?_; conv => whnf))
    first | refine ⟨rfl, _, rfl, ?_⟩ | refine ⟨_, rfl, ?_⟩
    rfl
  have hall' := below_succ (p := fun j => deepB (ix xs j) = true) hall h5
  conv => whnf
  repeat (first | (refine go_D5 ?_; conv => whnf) | (refine lk_D5 ?_; conv => whnf))
  refine ⟨i + 1, ?_, ?_, sim_of (rn := []) rfl ?_ ?_⟩
  · (dsimp only; omega)
  · exact ⟨by omega, hall'⟩
  · exact hold_D5
  · ((repeat' (first | exact trivial | apply And.intro)) <;> ((first | refine ⟨_, _, rfl, rfl, ?_⟩ ); rfl))
theorem areAllD_sat (xs : List Int) (hl : xs.length ≤ 1048576) (m : Bool) : Sat Try.prog 91 [intsD m xs, .fn (.func 56) [] []] (.v (.bool ((List.range xs.length).all fun i => deepB (ix xs i)))) := by
  have hc : Sat Try.prog 96 [intsD false xs, .fn (.func 97) [] [.ref false (.agg [.fn (.func 56) [] []]) 0]] (.v (.bool (decide (idxN xs.length (fun i => !deepB (ix xs i)) ≥ 0)))) := by
    refine sat_of_wp hMix tOk Try.func96 rfl rfl Try.ntmps96 rfl rfl Try.results96 (by kernel_rfl) ?_
    conv => whnf
    repeat (first | (refine go_D5 ?_; conv => whnf) | (refine lk_D5 ?_; conv => whnf))
    first | refine ⟨_, _, rfl, sc_D5 (indexD_sat xs hl false), ?_⟩ | refine .inl ⟨_, _, rfl, sc_D5 (indexD_sat xs hl false), ?_⟩
    conv => whnf
    repeat (first | (refine go_D5 ?_; conv => whnf) | (refine lk_D5 ?_; conv => whnf))
    first | refine ⟨rfl, _, rfl, ?_⟩ | refine ⟨_, rfl, ?_⟩
    rfl
  refine sat_of_wp hMix tOk Try.func91 rfl rfl Try.ntmps91 rfl rfl Try.results91 (by kernel_rfl) ?_
  conv => whnf
  repeat (first | (refine go_D5 ?_; conv => whnf) | (refine lk_D5 ?_; conv => whnf))
  first | refine ⟨_, _, rfl, sc_D5 (hc), ?_⟩ | refine .inl ⟨_, _, rfl, sc_D5 (hc), ?_⟩
  conv => whnf
  repeat (first | (refine go_D5 ?_; conv => whnf) | (refine lk_D5 ?_; conv => whnf))
  first | refine ⟨rfl, _, rfl, ?_⟩ | refine ⟨_, rfl, ?_⟩
  skip
  rw [idxN_any]
  rw [show ((List.range xs.length).all fun i => deepB (ix xs i)) = !((List.range xs.length).any fun i => !deepB (ix xs i)) by rw [List.all_eq_not_any_not]]
  rfl
theorem isRain_sat (g : Gut) (hg : g.In) (xs : List Int) (hl : xs.length ≤ 1048576) (m : Bool) : Sat Try.prog 65 [gutD false g, intsD m xs] (.v (.bool (rainB g xs))) := by
  have hn := hg.n
  have en : IntKind.i64.wrap g.n = g.n := w64 (by omega) (by omega)
  refine sat_of_wp hMix tOk Try.func65 rfl rfl Try.ntmps65 rfl rfl Try.results65 (by kernel_rfl) ?_
  conv => whnf
  repeat (first | (refine go_D5 ?_; conv => whnf) | (refine lk_D5 ?_; conv => whnf))
  rw [en]
  cases h : ((xs.length : Int) == g.n)
  · rw [show rainB g xs = false by unfold rainB; rw [h]; rfl]
    conv => whnf
    repeat (first | (refine go_D5 ?_; conv => whnf) | (refine lk_D5 ?_; conv => whnf))
    first | refine ⟨rfl, _, rfl, ?_⟩ | refine ⟨_, rfl, ?_⟩
    rfl
  conv => whnf
  repeat (first | (refine go_D5 ?_; conv => whnf) | (refine lk_D5 ?_; conv => whnf))
  first | refine ⟨_, _, rfl, sc_D5 (areAllD_sat xs hl false), ?_⟩ | refine .inl ⟨_, _, rfl, sc_D5 (areAllD_sat xs hl false), ?_⟩
  conv => whnf
  repeat (first | (refine go_D5 ?_; conv => whnf) | (refine lk_D5 ?_; conv => whnf))
  first | refine ⟨rfl, _, rfl, ?_⟩ | refine ⟨_, rfl, ?_⟩
  skip
  rw [show rainB g xs = ((List.range xs.length).all fun i => deepB (ix xs i)) by unfold rainB; rw [h]; rfl]; rfl
theorem isMinutes_sat (x : Int) : Sat Try.prog 71 [.v (.int .i64 x)] (.v (.bool (decide (0 ≤ x) && decide (x ≤ 200)))) := by
  refine sat_of_wp hMix tOk Try.func71 rfl rfl Try.ntmps71 rfl rfl Try.results71 (by kernel_rfl) ?_
  conv => whnf
  repeat (first | (refine go_D5 ?_; conv => whnf) | (refine lk_D5 ?_; conv => whnf))
  first | refine ⟨_, _, rfl, sc_D5 (within64_sat _ _ _), ?_⟩ | refine .inl ⟨_, _, rfl, sc_D5 (within64_sat _ _ _), ?_⟩
  conv => whnf
  repeat (first | (refine go_D5 ?_; conv => whnf) | (refine lk_D5 ?_; conv => whnf))
  first | refine ⟨rfl, _, rfl, ?_⟩ | refine ⟨_, rfl, ?_⟩
  rfl
theorem l00Min_sat (a b : Int) : Sat Try.prog 63 [.v (.int .i64 a), .v (.int .i64 b)] (.v (.int .i64 (minI a b))) := by
  refine sat_of_wp hMix tOk Try.func63 rfl rfl Try.ntmps63 rfl rfl Try.results63 (by kernel_rfl) ?_
  conv => whnf
  repeat (first | (refine go_D5 ?_; conv => whnf) | (refine lk_D5 ?_; conv => whnf))
  rw [← minI_lt]
  cases h : decide (a < b)
  · rw [if_neg (by simpa using h)]
    conv => whnf
    repeat (first | (refine go_D5 ?_; conv => whnf) | (refine lk_D5 ?_; conv => whnf))
    first | refine ⟨rfl, _, rfl, ?_⟩ | refine ⟨_, rfl, ?_⟩
    rfl
  rw [if_pos (by simpa using h)]
  conv => whnf
  repeat (first | (refine go_D5 ?_; conv => whnf) | (refine lk_D5 ?_; conv => whnf))
  first | refine ⟨rfl, _, rfl, ?_⟩ | refine ⟨_, rfl, ?_⟩
  rfl
end Go.Proofs.Ytcnenmcagkbppaa
/- Contracts: a minute, and several, both sides; the laws. -/
set_option linter.unusedVariables false
set_option linter.unusedSimpArgs false
namespace Go.V
/- Words for the walks of this text: their default arguments are tried where they are used. -/
theorem go_D6 {P Q : Prop} (k : Q) (h : P := by first | exact Nat.le_of_ble_eq_true rfl | exact rfl | decide | omega | (simp [splice]; done) | (constructor <;> omega) | (simp [splice]; omega)) : P ∧ Q := ⟨h, k⟩
theorem lk_D6 {α : Type} {o : Option α} {K : α → Prop} {x : α} (k : K x) (h : o = some x := by first | exact watA (by omega) | exact watA' (by omega) | exact watP (by omega) (by omega) | exact hDA (by omega) | exact hDA' (by omega) | exact gutA (by omega) | exact pipeA (by omega) | exact pipeB (by omega) | exact pipeSA (by omega) | exact pipeSB (by omega) | exact intA (by omega) | exact intA' (by omega) | exact upA (by omega)) : optK o K := optK_of h k
theorem sc_D6 {P : Program} {g : FuncId} {args args' : List D} {res : D} (h : Sat P g args res) (e : args' = args := by repeat (first | rfl | exact vfull (by first | (simp [splice]; done) | (simp [splice]; omega)) | exact rfull (by first | (simp [splice]; done) | (simp [splice]; omega)) | exact vpipe (by simp; done) (by omega) | exact vsplice (by simp) (by simp) | refine ceq ?_ ?_ | refine Eq.trans (vsplice (by first | (simp; done) | (simp; omega)) (by first | (simp; done) | (simp; omega))) ?_)) : Sat P g args' res := Sat.of_eq h e
theorem leaf_D6 {P : Prop} (h : P := by first | rfl | exact succ8 (by omega) | exact succ64 (by omega) | exact CapOk.fn (by assumption) _ _ | exact vintS (by omega) | exact vintS (by rw [w64 (by omega) (by omega)]; omega) | exact vintS (by rw [w8 (by omega) (by omega)]; omega) | exact vslcS (by omega) | exact vslcS (by simp)) : P := h
theorem hold_D6 {P : Prop} (h : P := by (repeat' (first | exact trivial | apply And.intro)) <;> (first | rfl | exact succ8 (by omega) | exact succ64 (by omega) | exact CapOk.fn (by assumption) _ _ | exact vintS (by omega) | exact vintS (by rw [w64 (by omega) (by omega)]; omega) | exact vintS (by rw [w8 (by omega) (by omega)]; omega) | exact vslcS (by omega) | exact vslcS (by simp))) : P := h
theorem okt_D6 {P : Prop} (h : P := by first | omega | (dsimp only; omega) | ((repeat' apply And.intro) <;> omega) | (dsimp only; (repeat' apply And.intro) <;> omega) | trivial) : P := h
end Go.V
namespace Go.V
theorem watP {w : Nat → Int} {x : Int} (h0 : 0 ≤ x) (h : x < 17) : nth (watC w) (0 + x.toNat * 1) = some (.int .i32 (w x.toNat)) := watN (by simp) (by omega)
theorem end17 {x y : List Value} (hx : x.length = 17) (hy : y.length = 17) : y = List.take 17 (List.drop 0 (splice x 0 (List.take 17 (List.drop 0 y)))) := by
  rw [List.drop_zero, List.drop_zero, take_full (l := y) (by omega), splice_all (by omega), take_full (by omega)]
theorem one17 {x y : List Value} (hx : x.length = 17) (hy : y.length = 17) : y = List.take 17 (List.drop 0 (splice x 0 y)) := by
  rw [splice_all (by omega), List.drop_zero, take_full (by omega)]
theorem two17 {x y z : List Value} (hx : x.length = 17) (hy : y.length = 17) (hz : z.length = 17) : y = List.take 17 (List.drop 0 (splice x 0 (List.take 17 (List.drop 0 (splice z 0 y))))) := by
  rw [← one17 hz hy, ← one17 hx hy]
/-- Over the first k cells: what is too much is cut away. -/
def cutW (dp : Int) (o : Nat → Int) (k : Nat) : Nat → Int := fun j => if j < k then cut1 dp (o j) else o j
theorem cutW_zero (dp : Int) (o : Nat → Int) : cutW dp o 0 = o := by funext j; simp [cutW]
theorem cutW_put {dp : Int} {o : Nat → Int} {k : Nat} (h : o k - dp > 0) : putW (cutW dp o k) k dp = cutW dp o (k + 1) := by
  funext j
  unfold putW cutW
  by_cases h1 : j = k
  · subst h1; rw [if_pos rfl, if_pos (by omega)]; unfold cut1; rw [if_pos h]
  · rw [if_neg h1]
    by_cases h2 : j < k
    · rw [if_pos h2, if_pos (by omega)]
    · rw [if_neg h2, if_neg (by omega)]
theorem cutW_keep {dp : Int} {o : Nat → Int} {k : Nat} (h : ¬ o k - dp > 0) : cutW dp o (k + 1) = cutW dp o k := by
  funext j
  unfold cutW
  by_cases h1 : j = k
  · subst h1; rw [if_pos (by omega), if_neg (by omega)]; unfold cut1; rw [if_neg h]
  · by_cases h2 : j < k
    · rw [if_pos (by omega), if_pos h2]
    · rw [if_neg (by omega), if_neg h2]
theorem cutW_at {dp : Int} {o : Nat → Int} {k : Nat} : cutW dp o k k = o k := by simp [cutW]
theorem cutW_all {dp : Int} (hd : 0 ≤ dp) {o : Nat → Int} {n : Nat} (hz : ∀ j, n ≤ j → o j = 0) : watC (cutW dp o n) = watC (fun j => cut1 dp (o j)) := watC_congr fun j hj => by
  unfold cutW
  by_cases h : j < n
  · rw [if_pos h]
  · rw [if_neg h, hz j (by omega)]; unfold cut1; rw [if_neg (by omega)]
def allK (g : Gut) (w : Nat → Int) (xs : List Int) (m : Int) : Int := wetK g w (rainB g xs && (decide (0 ≤ m) && decide (m ≤ 200)))
def allW (g : Gut) (w : Nat → Int) (xs : List Int) (m : Int) : Nat → Int := if allK g w xs m = 0 then wM g w xs m.toNat else fun _ => 0
def allT (g : Gut) (w : Nat → Int) (xs : List Int) (m : Int) : Int := if allK g w xs m = 0 then tM g w xs m.toNat else 0
def allO (g : Gut) (w : Nat → Int) (xs : List Int) (m : Int) : Int := if allK g w xs m = 0 then oM g w xs m.toNat else 0
def minsV (g : Gut) (w : Nat → Int) (xs : List Int) (m : Int) : D := .tup [watD (allW g w xs m), .v (.int .i64 (allT g w xs m)), .v (.int .i64 (allO g w xs m)), .v (.int .i64 (allK g w xs m))]
theorem allK_ok {g : Gut} {w : Nat → Int} {xs : List Int} {m : Int} (h : allK g w xs m = 0) : g.Ok ∧ W17 1000 w ∧ RainOk g xs ∧ 0 ≤ m ∧ m ≤ 200 := by
  unfold allK wetK at h
  split at h
  · rename_i h1
    split at h
    · rename_i h2
      simp only [Bool.and_eq_true, decide_eq_true_eq] at h2
      have h3 := okW_ok h1
      have h4 : okG g = true := by simp only [okW17, Bool.and_eq_true] at h1; exact h1.1
      exact ⟨okG_ok h4, ⟨h3.t⟩, rainB_ok h2.1, h2.2.1, h2.2.2⟩
    · cases h
  · cases h
theorem minsV_err {g : Gut} {w : Nat → Int} {xs : List Int} {m : Int} (h : ¬ allK g w xs m = 0) : minsV g w xs m = .tup [watD (fun _ => 0), .v (.int .i64 0), .v (.int .i64 0), .v (.int .i64 (allK g w xs m))] := by
  unfold minsV allW allT allO; rw [if_neg h, if_neg h, if_neg h]
theorem minsV_ok {g : Gut} {w : Nat → Int} {xs : List Int} {m : Int} (h : allK g w xs m = 0) : minsV g w xs m = .tup [watD (wM g w xs m.toNat), .v (.int .i64 (tM g w xs m.toNat)), .v (.int .i64 (oM g w xs m.toNat)), .v (.int .i64 0)] := by
  unfold minsV allW allT allO; rw [if_pos h, if_pos h, if_pos h, h]
theorem zero17 {x : List Value} (hx : x.length = 17) : watC (fun _ => 0) = List.take 17 (List.drop 0 (splice x 0 (List.replicate 17 (.int .i32 0)))) := by
  rw [splice_all (by simp [hx]), List.drop_zero, take_full (by simp), watC_zero]
end Go.V
namespace Go.Proofs.Ytcnenmcagkbppaa
open Go.V
theorem minute_sat (g : Gut) (hg : g.In) (ho : g.Ok) (w : Nat → Int) (hw : W17 1000 w) (xs : List Int) (hx : RainOk g xs) (m : Bool) :
    Sat Try.prog 92 [gutD false g, watD w, intsD m xs] (.tup [watD (minW g w xs), .v (.int .i64 (minT g w xs)), .v (.int .i64 (minO g w xs))]) := by
  have hn := ho.n
  have hdp := ho.dp
  have hxl := hx.len
  have hpl := ho.len
  have e17 : watC (fun _ => 0) = List.replicate 17 (.int .i32 0) := watC_zero
  have ed : IntKind.i32.wrap g.dp = g.dp := w32 (by omega) (by omega)
  refine sat_of_wp hMix tOk Try.func92 rfl rfl Try.ntmps92 rfl rfl Try.results92 (by kernel_rfl) ?_
  conv => whnf
  repeat (first | (refine go_D6 ?_; conv => whnf) | (refine lk_D6 ?_; conv => whnf))
  refine loop_rule (α := Nat) (fun k => [(3, .ptr (3, 0, 0) 0), (4, .ptr (4, 0, 0) 0), (6, .ptr (6, 0, 0) 0), (23, intsD m xs), (24, .v (.int .i64 xs.length)), (25, .v (.int .i64 k))]) (fun k => [((3, 0, 0), gutD false g), ((4, 0, 0), watD (wR w xs k)), ((6, 0, 0), watD (fun _ => 0))]) (fun k => k ≤ xs.length) (fun k => xs.length - k) (0) ?_ (sim_of (rn := [((3, 0, 0), (3, 0, 0)), ((4, 0, 0), (4, 0, 0)), ((6, 0, 0), (6, 0, 0))]) rfl ?_ ?_) ?_
  · exact okt_D6
  · exact hold_D6
  · ((repeat' (first | exact trivial | apply And.intro)) <;> ((first | refine ⟨_, _, rfl, rfl, ?_⟩ ); first | rfl | (first | exact cset (by rw [wR_zero]) | exact cset e17.symm)))
  intro k hk
  conv => whnf
  repeat (first | (refine go_D6 ?_; conv => whnf) | (refine lk_D6 ?_; conv => whnf))
  cases h1 : decide ((k : Int) < (xs.length : Int))
  case true =>
    have hkn : k < xs.length := by simpa using h1
    have hwk := hw.t k (by omega)
    have hxk := hx.t k hkn
    have ex : IntKind.i32.wrap (ix xs k) = ix xs k := w32 (by omega) (by omega)
    conv => whnf
    repeat (first | (refine go_D6 ?_; conv => whnf) | (refine lk_D6 ?_; conv => whnf))
    have setA : (watC (wR w xs k)).set (0 + (k : Int).toNat * 1) (.int .i32 (IntKind.i32.wrap (wR w xs k k + IntKind.i32.wrap (ix xs k)))) = watC (wR w xs (k + 1)) := by
      rw [ex, wR_at, w32 (by omega) (by omega), wat_set (c := k) (by simp), wR_put]
    refine ⟨k + 1, ?_, ?_, sim_of (rn := [((3, 0, 0), (3, 0, 0)), ((4, 0, 0), (4, 0, 0)), ((6, 0, 0), (6, 0, 0))]) rfl ?_ ?_⟩
    · (dsimp only; omega)
    · exact okt_D6
    · exact hold_D6
    · ((repeat' (first | exact trivial | apply And.intro)) <;> ((first | refine ⟨_, _, rfl, rfl, ?_⟩ ); first | rfl | (exact cset setA)))
  have hkn : k = g.n.toNat := by simp at h1; omega
  subst hkn
  have hw1 : W17 2000 (wR w xs g.n.toNat) := wR_in hw hx.t (by omega)
  clear h1
  have htk : ∀ i, i ≤ g.ps.length → 0 ≤ tP g (wR w xs g.n.toNat) i ∧ tP g (wR w xs g.n.toNat) i ≤ 8000 := fun i hi => by have := tP_in ho hw1 i hi; omega
  generalize hwe : wR w xs g.n.toNat = w1 at *
  conv => whnf
  repeat (first | (refine go_D6 ?_; conv => whnf) | (refine lk_D6 ?_; conv => whnf))
  refine loop_rule (α := Nat) (fun i => [(3, .ptr (3, 0, 0) 0), (4, .ptr (4, 0, 0) 0), (6, .ptr (6, 0, 0) 0), (11, .v (.int .i64 (tP g w1 i))), (12, .v (.int .i64 0)), (39, pipesD false g.ps), (40, .v (.int .i64 g.ps.length)), (41, .v (.int .i64 i))]) (fun i => [((3, 0, 0), gutD false g), ((4, 0, 0), watD (wP g w1 i)), ((6, 0, 0), watD (fun _ => 0))]) (fun i => i ≤ g.ps.length) (fun i => g.ps.length - i) (0) ?_ (sim_of (rn := [((3, 0, 0), (3, 0, 0)), ((4, 0, 0), (4, 0, 0)), ((6, 0, 0), (6, 0, 0))]) rfl ?_ ?_) ?_
  · exact okt_D6
  · exact hold_D6
  · ((repeat' (first | exact trivial | apply And.intro)) <;> ((first | refine ⟨_, _, rfl, rfl, ?_⟩ ); rfl))
  intro i hi
  conv => whnf
  repeat (first | (refine go_D6 ?_; conv => whnf) | (refine lk_D6 ?_; conv => whnf))
  cases h1 : decide ((i : Int) < (g.ps.length : Int))
  case true =>
    have hin : i < g.ps.length := by simpa using h1
    have hp := ho.ps i hin
    have hwi := (wP_in ho hw1 i hi).t (px g.ps i).1.toNat (by omega)
    have hti := htk i hi
    have hti1 := htk (i + 1) hin
    have ex : IntKind.i32.wrap (px g.ps i).2 = (px g.ps i).2 := w32 (by omega) (by omega)
    have hm1 := minI_le (wP g w1 i (px g.ps i).1.toNat) (px g.ps i).2
    have hm2 := minI_ge hwi.1 hp.2.1
    conv => whnf
    repeat (first | (refine go_D6 ?_; conv => whnf) | (refine lk_D6 ?_; conv => whnf))
    rw [ex]
    rw [show (if (px g.ps i).2 < wP g w1 i (px g.ps i).1.toNat then (px g.ps i).2 else wP g w1 i (px g.ps i).1.toNat) = minI (wP g w1 i (px g.ps i).1.toNat) (px g.ps i).2 from rfl]
    repeat (first | (refine go_D6 ?_; conv => whnf) | (refine lk_D6 ?_; conv => whnf))
    have setA : (watC (wP g w1 i)).set (0 + (px g.ps i).1.toNat * 1) (.int .i32 (IntKind.i32.wrap (wP g w1 i (px g.ps i).1.toNat - minI (wP g w1 i (px g.ps i).1.toNat) (px g.ps i).2))) = watC (wP g w1 (i + 1)) := by
      rw [w32 (by omega) (by omega), wat_set (c := (px g.ps i).1.toNat) (by simp)]; rfl
    have eT : tP g w1 (i + 1) = IntKind.i64.wrap (tP g w1 i + IntKind.i64.wrap (minI (wP g w1 i (px g.ps i).1.toNat) (px g.ps i).2)) := by
      rw [w64 (n := minI _ _) (by omega) (by omega)]
      simp only [tP] at hti1 ⊢
      rw [w64 (by omega) (by omega)]
    refine ⟨i + 1, ?_, ?_, sim_of (rn := [((3, 0, 0), (3, 0, 0)), ((4, 0, 0), (4, 0, 0)), ((6, 0, 0), (6, 0, 0))]) rfl ?_ ?_⟩
    · (dsimp only; omega)
    · exact okt_D6
    · ((repeat' (first | exact trivial | apply And.intro)) <;> (first | rfl | (exact vintS eT) | exact leaf_D6))
    · ((repeat' (first | exact trivial | apply And.intro)) <;> ((first | refine ⟨_, _, rfl, rfl, ?_⟩ ); first | rfl | (exact cset setA)))
  have hin : i = g.ps.length := by simp at h1; omega
  subst hin
  have hw2 : W17 2000 (wP g w1 g.ps.length) := wP_in ho hw1 _ (Nat.le_refl _)
  have e2 : wP g w1 g.ps.length = minF g w xs := by unfold minF; rw [hwe]
  have eT : tP g w1 g.ps.length = minT g w xs := by unfold minT; rw [hwe]
  rw [eT]
  rw [e2] at hw2 ⊢
  clear h1 htk
  conv => whnf
  repeat (first | (refine go_D6 ?_; conv => whnf) | (refine lk_D6 ?_; conv => whnf))
  first | refine ⟨_, _, rfl, sc_D6 (gcells_sat g ho), ?_⟩ | refine .inl ⟨_, _, rfl, sc_D6 (gcells_sat g ho), ?_⟩
  conv => whnf
  repeat (first | (refine go_D6 ?_; conv => whnf) | (refine lk_D6 ?_; conv => whnf))
  unfold minW minO
  generalize minF g w xs = w2 at *
  generalize minT g w xs = tt0 at *
  refine loop_rule (α := Nat) (fun k => [(3, .ptr (3, 0, 0) 0), (4, .ptr (4, 0, 0) 0), (6, .ptr (6, 0, 0) 0), (11, .v (.int .i64 tt0)), (12, .v (.int .i64 0)), (16, .ptr (16, 0, 0) 0), (66, .slc true 1 (66, 0, 0) 0 g.n.toNat), (67, .v (.int .i64 g.n.toNat)), (68, .v (.int .i64 k))]) (fun k => [((3, 0, 0), gutD false g), ((4, 0, 0), watD w2), ((6, 0, 0), watD (fun _ => 0)), ((16, 0, 0), watD (oK g w2 k)), ((66, 0, 0), .v (.agg ⟨intsC (upL g.n.toNat)⟩))]) (fun k => k ≤ g.n.toNat) (fun k => g.n.toNat - k) (0) ?_ (sim_of (rn := [((3, 0, 0), (3, 0, 0)), ((4, 0, 0), (4, 0, 0)), ((6, 0, 0), (6, 0, 0)), ((16, 0, 0), (16, 1, 0)), ((66, 0, 0), (66, 1, 0))]) rfl ?_ ?_) ?_
  · exact okt_D6
  · ((repeat' (first | exact trivial | apply And.intro)) <;> (first | rfl | (first | exact vslcS (upL_len _) | exact vslcS (upL_len _).symm | exact vintS (congrArg Int.ofNat (upL_len _)) | exact vintS (congrArg Int.ofNat (upL_len _).symm)) | exact leaf_D6))
  · ((repeat' (first | exact trivial | apply And.intro)) <;> ((first | refine ⟨_, _, rfl, rfl, ?_⟩ ); first | rfl | (exact cset (e17.symm.trans (congrArg watC (show (fun _ => (0 : Int)) = oK g w2 0 from rfl))))))
  intro k hk
  have hok := oK_in ho hw2 k (by omega)
  conv => whnf
  repeat (first | (refine go_D6 ?_; conv => whnf) | (refine lk_D6 ?_; conv => whnf))
  cases h1 : decide ((k : Int) < (g.n.toNat : Int))
  case true =>
    have hkn : k < g.n.toNat := by simp at h1; omega
    have hwk := hw2.t k (by omega)
    have htr := toP_range (g := g) (c := k) (by omega)
    have htt := tgt_lt (g := g) (c := k) (by omega)
    have hot := hok.t (tgt g k) (by omega)
    have ew : ∀ x : Int, 0 ≤ x → x ≤ 34000 → IntKind.i32.wrap (x + w2 k) = x + w2 k := fun x h1 h2 => w32 (by omega) (by omega)
    conv => whnf
    repeat (first | (refine go_D6 ?_; conv => whnf) | (refine lk_D6 ?_; conv => whnf))
    first | refine ⟨_, _, rfl, sc_D6 (flowsTo_sat g hg ho k (by omega)), ?_⟩ | refine .inl ⟨_, _, rfl, sc_D6 (flowsTo_sat g hg ho k (by omega)), ?_⟩
    conv => whnf
    repeat (first | (refine go_D6 ?_; conv => whnf) | (refine lk_D6 ?_; conv => whnf))
    cases h3 : (toP g k != -1)
    · have h3' : toP g k = -1 := by simpa using h3
      have et : tgt g k = k := by unfold tgt; rw [if_pos (by omega)]
      rw [et] at hot
      conv => whnf
      repeat (first | (refine go_D6 ?_; conv => whnf) | (refine lk_D6 ?_; conv => whnf))
      have setA : (watC (oK g w2 k)).set (0 + (k : Int).toNat * 1) (.int .i32 (IntKind.i32.wrap (oK g w2 k k + w2 k))) = watC (oK g w2 (k + 1)) := by
        rw [ew _ hot.1 (by omega), wat_set (c := k) (by simp)]
        simp only [oK]
        rw [et]
      refine ⟨k + 1, ?_, ?_, sim_of (rn := [((3, 0, 0), (3, 0, 0)), ((4, 0, 0), (4, 0, 0)), ((6, 0, 0), (6, 0, 0)), ((16, 0, 0), (16, 0, 0)), ((66, 0, 0), (66, 0, 0))]) rfl ?_ ?_⟩
      · (dsimp only; omega)
      · exact okt_D6
      · exact hold_D6
      · ((repeat' (first | exact trivial | apply And.intro)) <;> ((first | refine ⟨_, _, rfl, rfl, ?_⟩ ); first | rfl | (exact cset setA)))
    have h3' : ¬ toP g k = -1 := by simpa using h3
    have et : tgt g k = (toP g k).toNat := by unfold tgt; rw [if_neg (by omega)]
    rw [et] at hot
    have h0 : 0 ≤ toP g k := by omega
    have h17 : toP g k < 17 := by omega
    conv => whnf
    repeat (first | (refine go_D6 ?_; conv => whnf) | (refine lk_D6 ?_; conv => whnf))
    have setA : (watC (oK g w2 k)).set (0 + (toP g k).toNat * 1) (.int .i32 (IntKind.i32.wrap (oK g w2 k (toP g k).toNat + w2 k))) = watC (oK g w2 (k + 1)) := by
      rw [ew _ hot.1 (by omega), wat_set (c := (toP g k).toNat) (by simp)]
      simp only [oK]
      rw [et]
    refine ⟨k + 1, ?_, ?_, sim_of (rn := [((3, 0, 0), (3, 0, 0)), ((4, 0, 0), (4, 0, 0)), ((6, 0, 0), (6, 0, 0)), ((16, 0, 0), (16, 0, 0)), ((66, 0, 0), (66, 0, 0))]) rfl ?_ ?_⟩
    · (dsimp only; omega)
    · exact okt_D6
    · exact hold_D6
    · ((repeat' (first | exact trivial | apply And.intro)) <;> ((first | refine ⟨_, _, rfl, rfl, ?_⟩ ); first | rfl | (exact cset setA)))
  have hkn : k = g.n.toNat := by simp at h1; omega
  subst hkn
  have ho17 : W17 34000 (oK g w2 g.n.toNat) := ⟨fun j hj => by have := hok.t j hj; omega⟩
  clear h1 hok
  generalize oK g w2 g.n.toNat = o at *
  conv => whnf
  repeat (first | (refine go_D6 ?_; conv => whnf) | (refine lk_D6 ?_; conv => whnf))
  refine loop_rule (α := Nat) (fun k => [(3, .ptr (3, 0, 0) 0), (6, .ptr (6, 0, 0) 0), (11, .v (.int .i64 tt0)), (12, .v (.int .i64 (ovK g.dp o k))), (16, .ptr (16, 0, 0) 0), (94, watD o), (95, .v (.int .i64 k))]) (fun k => [((3, 0, 0), gutD false g), ((6, 0, 0), watD (fun _ => 0)), ((16, 0, 0), watD (cutW g.dp o k))]) (fun k => k ≤ 17) (fun k => 17 - k) (0) ?_ (sim_of (rn := [((3, 0, 0), (3, 0, 0)), ((6, 0, 0), (6, 0, 0)), ((16, 0, 0), (16, 0, 0))]) rfl ?_ ?_) ?_
  · exact okt_D6
  · ((repeat' (first | exact trivial | apply And.intro)) <;> (first | rfl | (first | exact vfullS (by simp) | exact (vfullS (by simp)).symm) | exact leaf_D6))
  · ((repeat' (first | exact trivial | apply And.intro)) <;> ((first | refine ⟨_, _, rfl, rfl, ?_⟩ ); first | rfl | (exact cset (by rw [cutW_zero]))))
  intro k hk
  have hov := ovK_in hdp.1 (by omega) ho17 k hk
  conv => whnf
  repeat (first | (refine go_D6 ?_; conv => whnf) | (refine lk_D6 ?_; conv => whnf))
  cases h1 : decide ((k : Int) < 17)
  · have hk17 : k = 17 := by simp at h1; omega
    subst hk17
    conv => whnf
    repeat (first | (refine go_D6 ?_; conv => whnf) | (refine lk_D6 ?_; conv => whnf))
    first | refine ⟨rfl, _, rfl, ?_⟩ | refine ⟨_, rfl, ?_⟩
    skip
    exact congrArg (fun l => D.tup [.v (.agg ⟨l⟩), .v (.int .i64 tt0), .v (.int .i64 (ovK g.dp o 17))]) (by
      rw [show watC (cutW g.dp o 17) = watC (fun j => cut1 g.dp (o j)) from watC_congr fun j hj => by unfold cutW; rw [if_pos hj]]
      exact end17 (by simp) (by simp))
  have hk17 : k < 17 := by simp at h1; omega
  have hok := ho17.t k hk17
  have ex : IntKind.i32.wrap (o k - g.dp) = o k - g.dp := w32 (by omega) (by omega)
  conv => whnf
  repeat (first | (refine go_D6 ?_; conv => whnf) | (refine lk_D6 ?_; conv => whnf))
  rw [ed, ex]
  cases h2 : decide (o k - g.dp > 0)
  · have h2' : ¬ o k - g.dp > 0 := by simpa using h2
    have eo : ovK g.dp o (k + 1) = ovK g.dp o k := by simp only [ovK]; unfold over1; rw [if_neg h2']; omega
    have ec : watC (cutW g.dp o k) = watC (cutW g.dp o (k + 1)) := by rw [cutW_keep h2']
    conv => whnf
    repeat (first | (refine go_D6 ?_; conv => whnf) | (refine lk_D6 ?_; conv => whnf))
    refine ⟨k + 1, ?_, ?_, sim_of (rn := [((3, 0, 0), (3, 0, 0)), ((6, 0, 0), (6, 0, 0)), ((16, 0, 0), (16, 0, 0))]) rfl ?_ ?_⟩
    · (dsimp only; omega)
    · exact okt_D6
    · ((repeat' (first | exact trivial | apply And.intro)) <;> (first | rfl | (exact vintS eo) | exact leaf_D6))
    · ((repeat' (first | exact trivial | apply And.intro)) <;> ((first | refine ⟨_, _, rfl, rfl, ?_⟩ ); first | rfl | (exact cset ec)))
  have h2' : o k - g.dp > 0 := by simpa using h2
  have eo : ovK g.dp o (k + 1) = IntKind.i64.wrap (ovK g.dp o k + IntKind.i64.wrap (o k - g.dp)) := by
    rw [w64 (n := o k - g.dp) (by omega) (by omega), w64 (by omega) (by omega)]
    simp only [ovK]; unfold over1; rw [if_pos h2']
  conv => whnf
  repeat (first | (refine go_D6 ?_; conv => whnf) | (refine lk_D6 ?_; conv => whnf))
  rw [ed]
  repeat (first | (refine go_D6 ?_; conv => whnf) | (refine lk_D6 ?_; conv => whnf))
  have setA : (watC (cutW g.dp o k)).set (0 + (k : Int).toNat * 1) (.int .i32 g.dp) = watC (cutW g.dp o (k + 1)) := by
    rw [wat_set (c := k) (by simp), cutW_put h2']
  refine ⟨k + 1, ?_, ?_, sim_of (rn := [((3, 0, 0), (3, 0, 0)), ((6, 0, 0), (6, 0, 0)), ((16, 0, 0), (16, 0, 0))]) rfl ?_ ?_⟩
  · (dsimp only; omega)
  · exact okt_D6
  · ((repeat' (first | exact trivial | apply And.intro)) <;> (first | rfl | (exact vintS eo) | exact leaf_D6))
  · ((repeat' (first | exact trivial | apply And.intro)) <;> ((first | refine ⟨_, _, rfl, rfl, ?_⟩ ); first | rfl | (exact cset setA)))
theorem minutes_sat (g : Gut) (hg : g.In) (ho : g.Ok) (w : Nat → Int) (hw17 : W17 1000 w) (xs : List Int) (hx : RainOk g xs) (M : Nat) (hM : M ≤ 200) (b : Bool) :
    Sat Try.prog 76 [gutD false g, watD w, intsD b xs, .v (.int .i64 M)] (.tup [watD (wM g w xs M), .v (.int .i64 (tM g w xs M)), .v (.int .i64 (oM g w xs M))]) := by
  have e17 : watC (fun _ => 0) = List.replicate 17 (.int .i32 0) := watC_zero
  refine sat_of_wp hMix tOk Try.func76 rfl rfl Try.ntmps76 rfl rfl Try.results76 (by kernel_rfl) ?_
  conv => whnf
  repeat (first | (refine go_D6 ?_; conv => whnf) | (refine lk_D6 ?_; conv => whnf))
  refine loop_rule (α := Nat) (fun i => [(2, intsD b xs), (4, .ptr (4, 0, 0) 0), (5, .ptr (5, 0, 0) 0), (8, .ptr (8, 0, 0) 0), (11, .v (.int .i64 (tM g w xs i))), (12, .v (.int .i64 (oM g w xs i))), (16, .v (.int .i64 M)), (17, .v (.int .i64 i))]) (fun i => [((4, 0, 0), gutD false g), ((5, 0, 0), watD (wM g w xs i)), ((8, 0, 0), watD (fun _ => 0))]) (fun i => i ≤ M) (fun i => M - i) (0) ?_ (sim_of (rn := [((4, 0, 0), (4, 0, 0)), ((5, 0, 0), (5, 0, 0)), ((8, 0, 0), (8, 0, 0))]) rfl ?_ ?_) ?_
  · exact okt_D6
  · exact hold_D6
  · ((repeat' (first | exact trivial | apply And.intro)) <;> ((first | refine ⟨_, _, rfl, rfl, ?_⟩ ); first | rfl | (exact cset e17.symm)))
  intro i hi
  have hwi := wM_in ho hw17 hx i
  have hti := tM_in ho hw17 hx i
  have hoi := oM_in ho hw17 hx i
  conv => whnf
  repeat (first | (refine go_D6 ?_; conv => whnf) | (refine lk_D6 ?_; conv => whnf))
  cases h3 : decide ((i : Int) < (M : Int))
  · have hin : i = M := by simp at h3; omega
    subst hin
    conv => whnf
    repeat (first | (refine go_D6 ?_; conv => whnf) | (refine lk_D6 ?_; conv => whnf))
    first | refine ⟨rfl, _, rfl, ?_⟩ | refine ⟨_, rfl, ?_⟩
    skip
    exact congrArg (fun l => D.tup [.v (.agg ⟨l⟩), .v (.int .i64 (tM g w xs i)), .v (.int .i64 (oM g w xs i))]) (end17 (by simp) (by simp))
  have hin : i < M := by simpa using h3
  have hmt := minT_in ho hwi hx
  have hmo := minO_in ho hwi hx
  have e1 : tM g w xs (i + 1) = IntKind.i64.wrap (tM g w xs i + minT g (wM g w xs i) xs) := by rw [w64 (by omega) (by omega)]; rfl
  have e2 : oM g w xs (i + 1) = IntKind.i64.wrap (oM g w xs i + minO g (wM g w xs i) xs) := by rw [w64 (by omega) (by omega)]; rfl
  conv => whnf
  repeat (first | (refine go_D6 ?_; conv => whnf) | (refine lk_D6 ?_; conv => whnf))
  first | refine ⟨_, _, rfl, sc_D6 (minute_sat g hg ho (wM g w xs i) hwi xs hx false), ?_⟩ | refine .inl ⟨_, _, rfl, sc_D6 (minute_sat g hg ho (wM g w xs i) hwi xs hx false), ?_⟩
  conv => whnf
  repeat (first | (refine go_D6 ?_; conv => whnf) | (refine lk_D6 ?_; conv => whnf))
  have setA : splice (watC (wM g w xs i)) 0 (List.take 17 (List.drop 0 (splice (List.replicate 17 (.int .i32 0)) 0 (watC (minW g (wM g w xs i) xs))))) = watC (wM g w xs (i + 1)) := by
    rw [← one17 (by simp) (by simp), splice_all (by simp)]; rfl
  refine ⟨i + 1, ?_, ?_, sim_of (rn := [((4, 0, 0), (4, 0, 0)), ((5, 0, 0), (5, 0, 0)), ((8, 0, 0), (8, 0, 0))]) rfl ?_ ?_⟩
  · (dsimp only; omega)
  · exact okt_D6
  · ((repeat' (first | exact trivial | apply And.intro)) <;> (first | rfl | (first | exact vintS e1 | exact vintS e2) | exact leaf_D6))
  · ((repeat' (first | exact trivial | apply And.intro)) <;> ((first | refine ⟨_, _, rfl, rfl, ?_⟩ ); first | rfl | (exact cset setA)))
theorem minutesAll_sat (g : Gut) (hg : g.In) (w : Nat → Int) (hw : WatIn w) (xs : List Int) (hl : xs.length ≤ 1048576) (m : Int) (b : Bool) : Sat Try.prog 30 [gutD false g, watD w, intsD b xs, .v (.int .i64 m)] (minsV g w xs m) := by
  refine sat_of_wp hMix tOk Try.func30 rfl rfl Try.ntmps30 rfl rfl Try.results30 (by kernel_rfl) ?_
  conv => whnf
  repeat (first | (refine go_D6 ?_; conv => whnf) | (refine lk_D6 ?_; conv => whnf))
  first | refine ⟨_, _, rfl, sc_D6 (isRain_sat g hg xs hl false), ?_⟩ | refine .inl ⟨_, _, rfl, sc_D6 (isRain_sat g hg xs hl false), ?_⟩
  conv => whnf
  repeat (first | (refine go_D6 ?_; conv => whnf) | (refine lk_D6 ?_; conv => whnf))
  cases h1 : rainB g xs
  · conv => whnf
    repeat (first | (refine go_D6 ?_; conv => whnf) | (refine lk_D6 ?_; conv => whnf))
    first | refine ⟨_, _, rfl, sc_D6 (waterCode_sat g hg w hw _), ?_⟩ | refine .inl ⟨_, _, rfl, sc_D6 (waterCode_sat g hg w hw _), ?_⟩
    conv => whnf
    repeat (first | (refine go_D6 ?_; conv => whnf) | (refine lk_D6 ?_; conv => whnf))
    have hK : wetK g w false = allK g w xs m := by unfold allK; rw [h1]; rfl
    rw [hK]
    refine bsplitT (fun h2 => ?_) (fun h2 => ?_)
    all_goals (conv => whnf)
    all_goals (repeat (first | (refine go_D6 ?_; conv => whnf) | (refine lk_D6 ?_; conv => whnf)))
    · have h2' : ¬ allK g w xs m = 0 := by simpa using h2
      rw [minsV_err h2']
      first | refine ⟨rfl, _, rfl, ?_⟩ | refine ⟨_, rfl, ?_⟩
      skip
      exact congrArg (fun l => D.tup [.v (.agg ⟨l⟩), .v (.int .i64 0), .v (.int .i64 0), .v (.int .i64 (allK g w xs m))]) (zero17 (by simp))
    exfalso
    have h2' : allK g w xs m = 0 := by simpa using h2
    rw [← hK] at h2'
    unfold wetK at h2'
    split at h2' <;> simp at h2'
  conv => whnf
  repeat (first | (refine go_D6 ?_; conv => whnf) | (refine lk_D6 ?_; conv => whnf))
  first | refine ⟨_, _, rfl, sc_D6 (isMinutes_sat _), ?_⟩ | refine .inl ⟨_, _, rfl, sc_D6 (isMinutes_sat _), ?_⟩
  conv => whnf
  repeat (first | (refine go_D6 ?_; conv => whnf) | (refine lk_D6 ?_; conv => whnf))
  first | refine ⟨_, _, rfl, sc_D6 (waterCode_sat g hg w hw _), ?_⟩ | refine .inl ⟨_, _, rfl, sc_D6 (waterCode_sat g hg w hw _), ?_⟩
  conv => whnf
  repeat (first | (refine go_D6 ?_; conv => whnf) | (refine lk_D6 ?_; conv => whnf))
  have hK : wetK g w (decide (0 ≤ m) && decide (m ≤ 200)) = allK g w xs m := by unfold allK; rw [h1]; rfl
  rw [hK]
  refine bsplitT (fun h2 => ?_) (fun h2 => ?_)
  all_goals (conv => whnf)
  all_goals (repeat (first | (refine go_D6 ?_; conv => whnf) | (refine lk_D6 ?_; conv => whnf)))
  · have h2' : ¬ allK g w xs m = 0 := by simpa using h2
    rw [minsV_err h2']
    first | refine ⟨rfl, _, rfl, ?_⟩ | refine ⟨_, rfl, ?_⟩
    skip
    exact congrArg (fun l => D.tup [.v (.agg ⟨l⟩), .v (.int .i64 0), .v (.int .i64 0), .v (.int .i64 (allK g w xs m))]) (zero17 (by simp))
  have hz : allK g w xs m = 0 := by simpa using h2
  rw [minsV_ok hz]
  obtain ⟨ho, hw17, hx, hm⟩ := allK_ok hz
  obtain ⟨M, rfl⟩ := eq_toNat (x := m) (by omega)
  rw [Int.toNat_natCast]
  first | refine ⟨_, _, rfl, sc_D6 (minutes_sat g hg ho w hw17 xs hx M (by omega) false), ?_⟩ | refine .inl ⟨_, _, rfl, sc_D6 (minutes_sat g hg ho w hw17 xs hx M (by omega) false), ?_⟩
  conv => whnf
  repeat (first | (refine go_D6 ?_; conv => whnf) | (refine lk_D6 ?_; conv => whnf))
  first | refine ⟨rfl, _, rfl, ?_⟩ | refine ⟨_, rfl, ?_⟩
  skip
  exact congrArg (fun l => D.tup [.v (.agg ⟨l⟩), .v (.int .i64 (tM g w xs M)), .v (.int .i64 (oM g w xs M)), .v (.int .i64 0)]) (two17 (by simp) (by simp) (by simp))
end Go.Proofs.Ytcnenmcagkbppaa
/- Plain words: the first least of a list; a gutter without leaves in a cell. -/
set_option linter.unusedVariables false
set_option linter.unusedSimpArgs false
namespace Go.V
/-- Where the first least of the first i + 1 numbers is. -/
def am (f : Nat → Int) : Nat → Nat
  | 0 => 0
  | i + 1 => if f (i + 1) < f (am f i) then i + 1 else am f i
theorem am_le (f : Nat → Int) : ∀ i, am f i ≤ i
  | 0 => Nat.le_refl _
  | i + 1 => by
    have := am_le f i
    simp only [am]; split <;> omega
theorem am_min (f : Nat → Int) : ∀ i j, j ≤ i → f (am f i) ≤ f j
  | 0, j, h => by
    have : j = 0 := by omega
    subst this; exact Int.le_refl _
  | i + 1, j, h => by
    simp only [am]
    split
    · rename_i hlt
      by_cases hj : j = i + 1
      · subst hj; omega
      · have := am_min f i j (by omega); omega
    · rename_i hge
      by_cases hj : j = i + 1
      · subst hj; omega
      · exact am_min f i j (by omega)
theorem am_first (f : Nat → Int) : ∀ i j, j < am f i → f (am f i) < f j
  | 0, j, h => by simp [am] at h
  | i + 1, j, h => by
    simp only [am] at h ⊢
    split at h
    · rename_i hlt
      rw [if_pos hlt]
      have := am_min f i j (by omega)
      omega
    · rename_i hge
      rw [if_neg hge]
      exact am_first f i j h
theorem am_congr {f g : Nat → Int} : ∀ {i : Nat}, (∀ j, j ≤ i → f j = g j) → am f i = am g i
  | 0, _ => rfl
  | i + 1, h => by
    have ih := am_congr (i := i) fun j hj => h j (by omega)
    have h1 := am_le f i
    simp only [am]
    rw [h (i + 1) (Nat.le_refl _), ih, h (am g i) (by rw [← ih]; omega)]
def nx (ls : List Nat) (i : Nat) : Nat := ls.getD i 0
theorem nx_left {ls : List Nat} {c i : Nat} (h : i < ls.length) : nx (ls ++ [c]) i = nx ls i := by
  unfold nx
  rw [List.getD_eq_getElem?_getD, List.getD_eq_getElem?_getD, List.getElem?_append_left h]
theorem nx_last {ls : List Nat} {c : Nat} : nx (ls ++ [c]) ls.length = c := by
  unfold nx
  rw [List.getD_eq_getElem?_getD]
  simp
theorem nx_mem {ls : List Nat} {i : Nat} (h : i < ls.length) : nx ls i ∈ ls := by
  unfold nx
  rw [List.getD_eq_getElem?_getD]
  simp [h]
/-- The first cell of a list that has the least, and this. -/
def bst (F : Nat → Int) (ls : List Nat) : Int × Int := if ls.length = 0 then (-1, 0) else (((nx ls (am (fun i => F (nx ls i)) (ls.length - 1)) : Nat) : Int), F (nx ls (am (fun i => F (nx ls i)) (ls.length - 1))))
theorem bst_neg {F : Nat → Int} {ls : List Nat} : (bst F ls).1 < 0 ↔ ls.length = 0 := by
  unfold bst
  split
  · rename_i h; simp [h]
  · rename_i h; simp [h]
theorem bst_snoc (F : Nat → Int) (ls : List Nat) (c : Nat) : bst F (ls ++ [c]) = if (bst F ls).1 < 0 ∨ F c < (bst F ls).2 then ((c : Int), F c) else bst F ls := by
  have hne : ¬ (ls ++ [c]).length = 0 := by simp
  unfold bst
  rw [if_neg hne]
  cases hl : ls.length with
  | zero =>
    have : ls = [] := List.eq_nil_of_length_eq_zero hl
    subst this
    rfl
  | succ n =>
    have e1 : (ls ++ [c]).length - 1 = n + 1 := by simp [hl]
    have hc : nx (ls ++ [c]) (n + 1) = c := by rw [← hl]; exact nx_last
    have ha : am (fun i => F (nx (ls ++ [c]) i)) n = am (fun i => F (nx ls i)) n := am_congr fun j hj => by
      show F _ = F _
      rw [nx_left (by omega)]
    have hle := am_le (fun i => F (nx ls i)) n
    have h2 : nx (ls ++ [c]) (am (fun i => F (nx ls i)) n) = nx ls (am (fun i => F (nx ls i)) n) := nx_left (by omega)
    have hA : am (fun i => F (nx (ls ++ [c]) i)) (n + 1) = if F c < F (nx ls (am (fun i => F (nx ls i)) n)) then n + 1 else am (fun i => F (nx ls i)) n := by
      show (if F (nx (ls ++ [c]) (n + 1)) < F (nx (ls ++ [c]) (am (fun i => F (nx (ls ++ [c]) i)) n)) then n + 1 else am (fun i => F (nx (ls ++ [c]) i)) n) = _
      simp only [ha, hc, h2]
    rw [e1, hA, if_neg (show ¬ n + 1 = 0 by omega), show n + 1 - 1 = n from rfl]
    dsimp only
    by_cases h : F c < F (nx ls (am (fun i => F (nx ls i)) n))
    · rw [if_pos h, if_pos (.inr h), hc]
    · rw [if_neg h, if_neg (by omega), h2]
def lvs (g : Gut) (k : Nat) : List Nat := (List.range k).filter (leafB g)
theorem lvs_yes {g : Gut} {k : Nat} (h : leafB g k = true) : lvs g (k + 1) = lvs g k ++ [k] := by
  unfold lvs; rw [List.range_succ, List.filter_append]; simp [h]
theorem lvs_no {g : Gut} {k : Nat} (h : leafB g k = false) : lvs g (k + 1) = lvs g k := by
  unfold lvs; rw [List.range_succ, List.filter_append]; simp [h]
theorem lvs_len (g : Gut) (k : Nat) : (lvs g k).length ≤ k := by
  unfold lvs
  refine Nat.le_trans (List.length_filter_le _ _) ?_
  simp
theorem lvs_lt {g : Gut} {k c : Nat} (h : c ∈ lvs g k) : c < k := by
  unfold lvs at h
  simp at h
  exact h.1
def lvC (g : Gut) (c : Nat) : Int := IntKind.u32.wrap (BitVec.ofInt IntKind.u32.bits g.lv &&& ~~~ BitVec.ofInt IntKind.u32.bits (IntKind.u32.wrap (1 * 2 ^ (min (c : Int).toNat IntKind.u32.bits)))).toNat
def cleanG (g : Gut) (c : Nat) : Gut := { g with lv := lvC g c }
theorem wrap32_range (n : Int) : 0 ≤ IntKind.u32.wrap n ∧ IntKind.u32.wrap n ≤ 4294967295 := by
  simp [IntKind.wrap, IntKind.bits, IntKind.signed]
  omega
theorem cleanG_in {g : Gut} (h : g.In) (c : Nat) : (cleanG g c).In := ⟨h.n, h.dp, h.h, wrap32_range _, h.ps, h.len⟩
theorem cleanG_ok {g : Gut} (h : g.Ok) (c : Nat) : (cleanG g c).Ok := ⟨h.n, h.dp, h.len, h.h, h.ps⟩
theorem cleanG_rain {g : Gut} {xs : List Int} (h : RainOk g xs) (c : Nat) : RainOk (cleanG g c) xs := ⟨h.len, h.t⟩
/-- What runs over without the leaves in a cell. -/
def clO (g : Gut) (xs : List Int) (M c : Nat) : Int := oM (cleanG g c) (fun _ => 0) xs M
def askG (g : Gut) (b : Bool) : Int := if okG g = true then (if b = true then 0 else 2) else 1
def bcA (g : Gut) (xs : List Int) (m : Int) : Int := askG g (rainB g xs && (decide (0 ≤ m) && decide (m ≤ 200)))
def bcK (g : Gut) (xs : List Int) (m : Int) : Int := if bcA g xs m = 0 then (if (lvs g g.n.toNat).length = 0 then 6 else 0) else bcA g xs m
def bcB (g : Gut) (xs : List Int) (m : Int) : Int × Int := if bcK g xs m = 0 then bst (clO g xs m.toNat) (lvs g g.n.toNat) else (0, 0)
def bcV (g : Gut) (xs : List Int) (m : Int) : D := .tup [.v (.int .i64 (bcB g xs m).1), .v (.int .i64 (bcB g xs m).2), .v (.int .i64 (bcK g xs m))]
theorem bcV_err {g : Gut} {xs : List Int} {m k : Int} (h : bcK g xs m = k) (hk : k ≠ 0) : bcV g xs m = .tup [.v (.int .i64 0), .v (.int .i64 0), .v (.int .i64 k)] := by
  unfold bcV bcB; rw [h, if_neg hk]
theorem bcA_ok {g : Gut} {xs : List Int} {m : Int} (h : bcA g xs m = 0) : g.Ok ∧ RainOk g xs ∧ 0 ≤ m ∧ m ≤ 200 := by
  unfold bcA askG at h
  split at h
  · rename_i h1
    split at h
    · rename_i h2
      simp only [Bool.and_eq_true, decide_eq_true_eq] at h2
      exact ⟨okG_ok h1, rainB_ok h2.1, h2.2.1, h2.2.2⟩
    · cases h
  · cases h
def toI (ls : List Nat) : List Int := ls.map Int.ofNat
@[simp] theorem toI_len (ls : List Nat) : (toI ls).length = ls.length := by simp [toI]
theorem toI_snoc (ls : List Nat) (c : Nat) : toI (ls ++ [c]) = toI ls ++ [(c : Int)] := by simp [toI]
theorem toI_ix {ls : List Nat} {i : Nat} (h : i < ls.length) : ix (toI ls) i = ((nx ls i : Nat) : Int) := by
  unfold ix toI nx
  rw [List.getD_eq_getElem?_getD, List.getD_eq_getElem?_getD]
  simp [h]
theorem map_ix {xs : List Int} {f : Int → Int} {i : Nat} (h : i < xs.length) : ix (xs.map f) i = f (ix xs i) := by
  unfold ix
  rw [List.getD_eq_getElem?_getD, List.getD_eq_getElem?_getD]
  simp [h]
end Go.V
