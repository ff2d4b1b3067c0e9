import Derived.Test.YtcjaihndhplclaaP3
/- The law of the fewest repairs; contracts of the repairs with the least drips, both sides, and the law. -/
set_option linter.unusedVariables false
set_option linter.unusedSimpArgs false
namespace Go.V
/- Words for the walks of this text: their default arguments are tried where they are used. -/
theorem go_E39 {P Q : Prop} (k : Q) (h : P := by first | exact Nat.le_of_ble_eq_true rfl | exact rfl | decide | omega | (simp [splice]; done) | (constructor <;> omega) | (simp [splice]; omega)) : P ∧ Q := ⟨h, k⟩
theorem lk_E39 {α : Type} {o : Option α} {K : α → Prop} {x : α} (k : K x) (h : o = some x := by first | exact raiA (by omega) | exact raiA' (by omega) | exact roofN (by omega) (by omega) | exact gridN (by omega) (by omega) | exact intA (by omega) | exact intA' (by omega) | exact placeA (by omega) | exact placeB (by omega) | exact placeA' (by omega) | exact placeB' (by omega)) : optK o K := optK_of h k
theorem sc_E39 {P : Program} {g : FuncId} {args args' : List D} {res : D} (h : Sat P g args res) (e : args' = args := by repeat (first | rfl | exact vfull (by first | (simp [splice]; done) | (simp [splice]; omega)) | exact rfull (by first | (simp [splice]; done) | (simp [splice]; omega)) | exact vplace (by simp; done) (by omega) | exact vrow (by simp; done) (by omega) | exact vtiles (by simp) | exact vsplice (by simp) (by simp) | refine ceq ?_ ?_ | refine Eq.trans (vsplice (by first | (simp; done) | (simp; omega)) (by first | (simp; done) | (simp; omega))) ?_)) : Sat P g args' res := Sat.of_eq h e
theorem sm_E39 {low : Bool} {P : Program} {g : FuncId} {args args' ms ms0 : List D} {res : D} {ms' : List (Option D)} {news : List D} (h : SatB low P g args ms res ms' news) (e : args' = args := by repeat (first | rfl | exact vfull (by first | (simp [splice]; done) | (simp [splice]; omega)) | exact rfull (by first | (simp [splice]; done) | (simp [splice]; omega)) | exact vplace (by simp; done) (by omega) | exact vrow (by simp; done) (by omega) | exact vtiles (by simp) | exact vsplice (by simp) (by simp) | refine ceq ?_ ?_ | refine Eq.trans (vsplice (by first | (simp; done) | (simp; omega)) (by first | (simp; done) | (simp; omega))) ?_)) (e2 : ms0 = ms := by repeat (first | rfl | exact vfull (by first | (simp [splice]; done) | (simp [splice]; omega)) | exact rfull (by first | (simp [splice]; done) | (simp [splice]; omega)) | exact vplace (by simp; done) (by omega) | exact vrow (by simp; done) (by omega) | exact vtiles (by simp) | exact vsplice (by simp) (by simp) | refine ceq ?_ ?_ | refine Eq.trans (vsplice (by first | (simp; done) | (simp; omega)) (by first | (simp; done) | (simp; omega))) ?_)) : SatB low P g args' ms0 res ms' news := SatB.of_eq h e e2
theorem leaf_E39 {P : Prop} (h : P := by first | rfl | exact succ8 (by omega) | exact succ64 (by omega) | exact CapOk.fn (by assumption) _ _ | exact vintS (by omega) | exact vintS (by rw [w64 (by omega) (by omega)]; omega) | exact vintS (by rw [w8 (by omega) (by omega)]; omega) | exact vslcS (by omega) | exact vslcS (by simp)) : P := h
end Go.V
namespace Go.V
/-- The best one of the first k. -/
@[irreducible] def ldQ (r : Roof) (w : Nat → Int) (m : Int) (k : Nat) : List Pl := selX (cmD r w) (fun k => decide (k ≠ 0) && ldS m (rpL r k)) (rpL r) [] k
theorem ldQ_one (r : Roof) (w : Nat → Int) (m : Int) : ldQ r w m 1 = [] := by unfold ldQ; simp [selX]
theorem ldQ_next (r : Roof) (w : Nat → Int) (m : Int) (k : Nat) (hk : 0 < k) : ldQ r w m (k + 1) = if cmD r w (rpL r k) (ldQ r w m k) < 0 ∧ ldS m (rpL r k) = true then rpL r k else ldQ r w m k := by
  unfold ldQ
  simp only [selX]
  have : decide (k ≠ 0) = true := by simp; omega
  simp only [this, Bool.true_and]
theorem ldQ_all {r : Roof} {w : Nat → Int} {m : Int} (hm : 0 ≤ m) : ldQ r w m (rpN r) = ldX r w m := by unfold ldQ; exact ldX_spec hm
theorem ldQ_mem (r : Roof) (w : Nat → Int) (m : Int) (k : Nat) : ldQ r w m k = [] ∨ ∃ j, ldQ r w m k = rpL r j := by
  unfold ldQ
  rcases selX_mem (c := cmD r w) (sel := fun k => decide (k ≠ 0) && ldS m (rpL r k)) (L := rpL r) (m := []) (k := k) with h | ⟨j, _, h⟩
  · exact .inl h
  · exact .inr ⟨j, h⟩
end Go.V
namespace Go.Proofs.Ytcjaihndhplclaa
open Go.V
theorem ldX_mem {r : Roof} {w : Nat → Int} {m : Int} (hm : 0 ≤ m) : ldX r w m ∈ ldA r m := by
  have hp : 0 < (ldA r m).length := by rw [ldA_split hm]; simp
  have := minX_mem (cmD r w) ((ldA r m).getD 0 []) ((ldA r m).drop 1)
  rw [getD_cons_drop hp] at this
  exact this
set_option maxRecDepth 8000 in
theorem leastDrip_sat (r : Roof) (hr : r.In) (w : Nat → Int) (hw : RaiIn w) (m : Int) : Sat Try.prog 26 [roofD r, raiD w, .v (.int .i64 m)] (ldV r w m) := by
  unfold ldV
  refine satS_of_wp hMix tOk Try.func26 rfl rfl Try.ntmps26 rfl rfl Try.results26 (by kernel_rfl) ?_
  conv => whnf
  repeat (first | (refine go_E39 ?_; conv => whnf) | (refine lk_E39 ?_; conv => whnf))
  first | refine ⟨_, _, rfl, sc_E39 (within64_sat m 0 10), ?_⟩ | refine .inl ⟨_, _, rfl, sc_E39 (within64_sat m 0 10), ?_⟩
  conv => whnf
  repeat (first | (refine go_E39 ?_; conv => whnf) | (refine lk_E39 ?_; conv => whnf))
  rw [show (decide ((0 : Int) ≤ m) && decide (m ≤ 10)) = ldB m from rfl]
  first | refine ⟨_, _, rfl, sc_E39 (repairCode_sat r hr w hw _), ?_⟩ | refine .inl ⟨_, _, rfl, sc_E39 (repairCode_sat r hr w hw _), ?_⟩
  conv => whnf
  repeat (first | (refine go_E39 ?_; conv => whnf) | (refine lk_E39 ?_; conv => whnf))
  rw [show (if rnK r w (ldB m) = 0 ∧ 10 < (wrP r).length then (3 : Int) else rnK r w (ldB m)) = frK r w (ldB m) from rfl]
  cases h : (frK r w (ldB m) != 0)
  case true =>
    have h' : ¬ frK r w (ldB m) = 0 := by simpa using h
    rw [show ldY r w m = [] by unfold ldY; rw [if_neg h'], show ldZ r w m = 0 by unfold ldZ; rw [if_neg h']]
    conv => whnf
    repeat (first | (refine go_E39 ?_; conv => whnf) | (refine lk_E39 ?_; conv => whnf))
    left
    conv => whnf
    first | refine ⟨rfl, _, rfl, [_, _, _], rfl, ?_, rfl⟩ | refine ⟨_, rfl, [_, _, _], rfl, ?_, rfl⟩
    ((repeat' (first | exact trivial | apply And.intro)) <;> first | exact .inl rfl | exact .inr ⟨rfl, rfl⟩)
  have h' : frK r w (ldB m) = 0 := by simpa using h
  obtain ⟨h1, hn⟩ := frK_zero h'
  obtain ⟨hO, hm0⟩ := rnK_zero h1
  have hm0 : 0 ≤ m := by unfold ldB at hm0; simp at hm0; exact hm0.1
  have hw1 : W1 w := okN_w hO
  have hb := okR_bounds (okN_R hO)
  have hN : rpN r ≤ 1024 := (Nat.pow_le_pow_right (by omega) hn : (2 : Nat) ^ (wrP r).length ≤ 2 ^ 10)
  have hlen := rpA_len r
  have hpos := rpN_pos r
  have hmem : ∀ l ∈ rpA r, l.length ≤ 1048576 ∧ AllIn l := fun l hl => by
    have := rpA_mem hl
    exact ⟨by omega, rp_in hb this.2⟩
  rw [show ldY r w m = ldX r w m by unfold ldY; rw [if_pos h'], show ldZ r w m = afI r w (ldX r w m) by unfold ldZ; rw [if_pos h'], h']
  conv => whnf
  repeat (first | (refine go_E39 ?_; conv => whnf) | (refine lk_E39 ?_; conv => whnf))
  first | refine ⟨_, _, rfl, sc_E39 (repairsR_sat r hr hb hn), ?_⟩ | refine .inl ⟨_, _, rfl, sc_E39 (repairsR_sat r hr hb hn), ?_⟩
  conv => whnf
  repeat (first | (refine go_E39 ?_; conv => whnf) | (refine lk_E39 ?_; conv => whnf))
  have hpA : 0 < (ldA r m).length := by rw [ldA_split hm0]; simp
  have hle : (ldA r m).length ≤ (rpA r).length := List.length_filter_le _ _
  have hsub : ∀ l ∈ ldA r m, l.length ≤ 1048576 ∧ AllIn l := fun l hl => hmem l (List.mem_filter.1 hl).1
  have hX := hsub _ (ldX_mem (w := w) hm0)
  refine ⟨[(21, 0, 0), (5, 0, 0)], _, _, _, _, _, _, _, _, rfl, rfl, rfl, mapO_pair (lendLL rfl) rfl, deleteFunc1_satL (g := 65) (keep := ldS m) (rpA r) ⟨by omega, by omega⟩ (fun l hl => least1_del_sat m l (hmem l hl).1), rfl, mapO_pair backKP rfl, rfl, rfl, ?_⟩
  conv => whnf
  repeat (first | (refine go_E39 ?_; conv => whnf) | (refine lk_E39 ?_; conv => whnf))
  refine ⟨[(21, 0, 0), (3, 0, 0), (4, 0, 0)], _, _, _, _, _, _, _, _, rfl, rfl, rfl, mapO_three (lendKP rfl) rfl rfl, minFunc2_satL (g := 66) (keep := ldS m) (c := cmD r w) (rpA r) (ldA r m) _ rfl ⟨hpA, by omega⟩ (fun x hx y hy => least2_sat r hr hb w hw1 x y (hsub x hx).1 (hsub y hy).1 (hsub x hx).2 (hsub y hy).2), rfl, mapO_three backKP rfl rfl, rfl, rfl, ?_⟩
  rw [show minX (cmD r w) (lx (ldA r m) 0) ((ldA r m).drop 1) = ldX r w m from rfl]
  generalize ldX r w m = X at *
  conv => whnf
  repeat (first | (refine go_E39 ?_; conv => whnf) | (refine lk_E39 ?_; conv => whnf))
  first | refine ⟨_, _, rfl, sc_E39 (after_sat r hr hb w hw1 X hX.1 hX.2 false), ?_⟩ | refine .inl ⟨_, _, rfl, sc_E39 (after_sat r hr hb w hw1 X hX.1 hX.2 false), ?_⟩
  conv => whnf
  repeat (first | (refine go_E39 ?_; conv => whnf) | (refine lk_E39 ?_; conv => whnf))
  right
  refine ⟨_, thaw_sim (i := 6) rfl rfl rfl, ?_⟩
  conv => whnf
  first | refine ⟨rfl, _, rfl, [_, _, _], rfl, ?_, rfl⟩ | refine ⟨_, rfl, [_, _, _], rfl, ?_, rfl⟩
  ((repeat' (first | exact trivial | apply And.intro)) <;> first | exact .inl rfl | exact .inr ⟨rfl, rfl⟩)
set_option maxRecDepth 8000 in
set_option maxHeartbeats 2000000 in
theorem specLeastDrip_sat (r : Roof) (hr : r.In) (w : Nat → Int) (hw : RaiIn w) (m : Int) : Sat Try.prog 25 [roofD r, raiD w, .v (.int .i64 m)] (ldV r w m) := by
  unfold ldV
  refine satS_of_wp hMix tOk Try.func25 rfl rfl Try.ntmps25 rfl rfl Try.results25 (by kernel_rfl) ?_
  conv => whnf
  repeat (first | (refine go_E39 ?_; conv => whnf) | (refine lk_E39 ?_; conv => whnf))
  first | refine ⟨_, _, rfl, sc_E39 (l00In_sat m 0 10), ?_⟩ | refine .inl ⟨_, _, rfl, sc_E39 (l00In_sat m 0 10), ?_⟩
  conv => whnf
  repeat (first | (refine go_E39 ?_; conv => whnf) | (refine lk_E39 ?_; conv => whnf))
  rw [show (decide (m ≥ 0) && decide (m ≤ 10)) = ldB m from rfl]
  first | refine ⟨_, _, rfl, sc_E39 (l03Places0_sat r hr w hw _ false), ?_⟩ | refine .inl ⟨_, _, rfl, sc_E39 (l03Places0_sat r hr w hw _ false), ?_⟩
  conv => whnf
  repeat (first | (refine go_E39 ?_; conv => whnf) | (refine lk_E39 ?_; conv => whnf))
  cases h0 : (rnK r w (ldB m) == 0)
  · have h0' : ¬ rnK r w (ldB m) = 0 := by simpa using h0
    have hk : frK r w (ldB m) = rnK r w (ldB m) := by unfold frK; rw [if_neg (by rintro ⟨h, _⟩; exact h0' h)]
    rw [show ldY r w m = [] by unfold ldY; rw [if_neg (by rw [hk]; exact h0')], show ldZ r w m = 0 by unfold ldZ; rw [if_neg (by rw [hk]; exact h0')], hk]
    conv => whnf
    repeat (first | (refine go_E39 ?_; conv => whnf) | (refine lk_E39 ?_; conv => whnf))
    rw [show (rnK r w (ldB m) != 0) = true by simpa using h0']
    conv => whnf
    repeat (first | (refine go_E39 ?_; conv => whnf) | (refine lk_E39 ?_; conv => whnf))
    left
    conv => whnf
    first | refine ⟨rfl, _, rfl, [_, _, _], rfl, ?_, rfl⟩ | refine ⟨_, rfl, [_, _, _], rfl, ?_, rfl⟩
    ((repeat' (first | exact trivial | apply And.intro)) <;> first | exact .inl rfl | exact .inr ⟨rfl, rfl⟩)
  have h1 : rnK r w (ldB m) = 0 := by simpa using h0
  obtain ⟨hO, hm0⟩ := rnK_zero h1
  have hm0 : 0 ≤ m := by unfold ldB at hm0; simp at hm0; exact hm0.1
  have hw1 : W1 w := okN_w hO
  have hb := okR_bounds (okN_R hO)
  conv => whnf
  repeat (first | (refine go_E39 ?_; conv => whnf) | (refine lk_E39 ?_; conv => whnf))
  first | refine ⟨_, _, rfl, sc_E39 (l03Wrong_sat r hr hb), ?_⟩ | refine .inl ⟨_, _, rfl, sc_E39 (l03Wrong_sat r hr hb), ?_⟩
  conv => whnf
  repeat (first | (refine go_E39 ?_; conv => whnf) | (refine lk_E39 ?_; conv => whnf))
  cases h2 : decide (((wrP r).length : Int) > 10)
  case true =>
    have hk : frK r w (ldB m) = 3 := by unfold frK; rw [if_pos ⟨h1, by simp at h2; omega⟩]
    rw [show ldY r w m = [] by unfold ldY; rw [if_neg (by rw [hk]; omega)], show ldZ r w m = 0 by unfold ldZ; rw [if_neg (by rw [hk]; omega)], hk]
    conv => whnf
    repeat (first | (refine go_E39 ?_; conv => whnf) | (refine lk_E39 ?_; conv => whnf))
    left
    conv => whnf
    first | refine ⟨rfl, _, rfl, [_, _, _], rfl, ?_, rfl⟩ | refine ⟨_, rfl, [_, _, _], rfl, ?_, rfl⟩
    ((repeat' (first | exact trivial | apply And.intro)) <;> first | exact .inl rfl | exact .inr ⟨rfl, rfl⟩)
  have hn : (wrP r).length ≤ 10 := by simp at h2; omega
  have hk : frK r w (ldB m) = 0 := by unfold frK; rw [if_neg (by omega)]; exact h1
  rw [show ldY r w m = ldX r w m by unfold ldY; rw [if_pos hk], show ldZ r w m = afI r w (ldX r w m) by unfold ldZ; rw [if_pos hk], hk, h1, ← ldQ_all hm0]
  have hN : rpN r ≤ 1024 := (Nat.pow_le_pow_right (by omega) hn : (2 : Nat) ^ (wrP r).length ≤ 2 ^ 10)
  have hpos := rpN_pos r
  have hL : ∀ k, (rpL r k).length ≤ 10 ∧ AllIn (rpL r k) := fun k => ⟨Nat.le_trans (chP_len _ _ _) hn, rp_in hb (chP_sub (Nat.le_refl _))⟩
  conv => whnf
  repeat (first | (refine go_E39 ?_; conv => whnf) | (refine lk_E39 ?_; conv => whnf))
  first | refine ⟨_, _, rfl, sc_E39 (l02Sum_sat r hr hb w hw1), ?_⟩ | refine .inl ⟨_, _, rfl, sc_E39 (l02Sum_sat r hr hb w hw1), ?_⟩
  conv => whnf
  repeat (first | (refine go_E39 ?_; conv => whnf) | (refine lk_E39 ?_; conv => whnf))
  refine loop_ruleS (α := Nat) (fun k => [(2, .v (.int .i64 m)), (3, .ptr (3, 0, 0) 0), (4, .ptr (4, 0, 0) 0), (10, placesD true (wrP r)), (11, placesD true (ldQ r w m k)), (12, .v (.int .i64 (afI r w (ldQ r w m k)))), (13, .v (.int .i64 k))]) (fun k => [((3, 0, 0), roofD r), ((4, 0, 0), raiD w)]) (fun k => k ≤ rpN r ∧ 0 < k) (fun k => rpN r - k) (1) ?_ (Sim.trans (Sim.trans (frz_sim (id := (23, 0, 0)) (xs := placesC (wrP r)) rfl rfl rfl) (frz_sim (id := (31, 0, 0)) (xs := placesC []) rfl rfl rfl)) (sim_ofS rfl (rn := [((3, 0, 0), (3, 0, 0)), ((4, 0, 0), (4, 0, 0))]) rfl ?_ ?_)) ?_
  · exact ⟨by omega, by omega⟩
  · ((repeat' (first | exact trivial | apply And.intro)) <;> (first | rfl | (first | exact congrArg (fun l => some (placesD true l)) (ldQ_one r w m) | exact vintS (by rw [ldQ_one, afI_nil])) | exact leaf_E39))
  · ((repeat' (first | exact trivial | apply And.intro)) <;> ((first | refine ⟨_, _, rfl, rfl, ?_⟩ ); rfl))
  rintro k ⟨hk, hk0⟩
  have hstep := ldQ_next r w m k hk0
  have hbm : (ldQ r w m k).length ≤ 10 ∧ AllIn (ldQ r w m k) := by
    rcases ldQ_mem r w m k with h | ⟨j, h⟩
    · rw [h]; exact ⟨by simp, fun i hi => by simp at hi⟩
    · rw [h]; exact hL j
  have hLk := hL k
  have hc := cmD_lt r w (rpL r k) (ldQ r w m k)
  generalize hB : ldQ r w m k = B at *
  conv => whnf
  repeat (first | (refine go_E39 ?_; conv => whnf) | (refine lk_E39 ?_; conv => whnf))
  rw [shl64 hn, show ((2 ^ (wrP r).length : Nat) : Int) = ((rpN r : Nat) : Int) from rfl]
  cases h3 : decide ((k : Int) < ((rpN r : Nat) : Int))
  · have hkn : k = rpN r := by simp at h3; omega
    subst hkn
    rw [hB]
    conv => whnf
    repeat (first | (refine go_E39 ?_; conv => whnf) | (refine lk_E39 ?_; conv => whnf))
    right
    refine ⟨_, thaw_sim (i := 6) rfl rfl rfl, ?_⟩
    conv => whnf
    first | refine ⟨rfl, _, rfl, [_, _, _], rfl, ?_, rfl⟩ | refine ⟨_, rfl, [_, _, _], rfl, ?_, rfl⟩
    ((repeat' (first | exact trivial | apply And.intro)) <;> first | exact .inl rfl | exact .inr ⟨rfl, rfl⟩)
  have hkn : k < rpN r := by simpa using h3
  conv => whnf
  repeat (first | (refine go_E39 ?_; conv => whnf) | (refine lk_E39 ?_; conv => whnf))
  first | refine ⟨_, _, rfl, sc_E39 (l03Chosen_sat (wrP r) (by omega) k (by omega) false), ?_⟩ | refine .inl ⟨_, _, rfl, sc_E39 (l03Chosen_sat (wrP r) (by omega) k (by omega) false), ?_⟩
  conv => whnf
  repeat (first | (refine go_E39 ?_; conv => whnf) | (refine lk_E39 ?_; conv => whnf))
  rw [show chP (wrP r) k (wrP r).length = rpL r k from rfl]
  generalize hLe : rpL r k = L at *
  have hls : ldS m L = decide ((L.length : Int) ≤ m) := rfl
  rw [hls] at hstep
  have no : ¬ (cmD r w L B < 0 ∧ decide ((L.length : Int) ≤ m) = true) → ldQ r w m (k + 1) = B := fun h => by rw [hstep, if_neg h]
  have yes : cmD r w L B < 0 → decide ((L.length : Int) ≤ m) = true → ldQ r w m (k + 1) = L := fun h h' => by rw [hstep, if_pos ⟨h, h'⟩]
  cases h4 : decide ((L.length : Int) > m)
  case true =>
    have e := no (by rintro ⟨_, h⟩; simp at h h4; omega)
    conv => whnf
    repeat (first | (refine go_E39 ?_; conv => whnf) | (refine lk_E39 ?_; conv => whnf))
    refine ⟨k + 1, ?_, ?_, sim_ofS rfl (rn := [((3, 0, 0), (3, 0, 0)), ((4, 0, 0), (4, 0, 0))]) rfl ?_ ?_⟩
    · (dsimp only; omega)
    · exact ⟨by omega, by omega⟩
    · ((repeat' (first | exact trivial | apply And.intro)) <;> (first | rfl | (first | exact congrArg (fun l => some (placesD true l)) e | exact vintS (by rw [e])) | exact leaf_E39))
    · ((repeat' (first | exact trivial | apply And.intro)) <;> ((first | refine ⟨_, _, rfl, rfl, ?_⟩ ); rfl))
  have h4' : decide ((L.length : Int) ≤ m) = true := by simp at h4 ⊢; omega
  have no2 : ¬ cmD r w L B < 0 → ldQ r w m (k + 1) = B := fun h => no fun h' => h h'.1
  conv => whnf
  repeat (first | (refine go_E39 ?_; conv => whnf) | (refine lk_E39 ?_; conv => whnf))
  first | refine ⟨_, _, rfl, sc_E39 (l03After_sat r hr hb w hw1 L (by omega) hLk.2 false), ?_⟩ | refine .inl ⟨_, _, rfl, sc_E39 (l03After_sat r hr hb w hw1 L (by omega) hLk.2 false), ?_⟩
  conv => whnf
  repeat (first | (refine go_E39 ?_; conv => whnf) | (refine lk_E39 ?_; conv => whnf))
  cases h5 : decide (afI r w L < afI r w B)
  · have h5' : ¬ afI r w L < afI r w B := by simpa using h5
    conv => whnf
    repeat (first | (refine go_E39 ?_; conv => whnf) | (refine lk_E39 ?_; conv => whnf))
    cases h6 : (afI r w L == afI r w B)
    · have h6' : ¬ afI r w L = afI r w B := by simpa using h6
      have e := no2 (by rw [hc]; omega)
      conv => whnf
      repeat (first | (refine go_E39 ?_; conv => whnf) | (refine lk_E39 ?_; conv => whnf))
      refine ⟨k + 1, ?_, ?_, sim_ofS rfl (rn := [((3, 0, 0), (3, 0, 0)), ((4, 0, 0), (4, 0, 0))]) rfl ?_ ?_⟩
      · (dsimp only; omega)
      · exact ⟨by omega, by omega⟩
      · ((repeat' (first | exact trivial | apply And.intro)) <;> (first | rfl | (first | exact congrArg (fun l => some (placesD true l)) e | exact vintS (by rw [e])) | exact leaf_E39))
      · ((repeat' (first | exact trivial | apply And.intro)) <;> ((first | refine ⟨_, _, rfl, rfl, ?_⟩ ); rfl))
    have h6' : afI r w L = afI r w B := by simpa using h6
    conv => whnf
    repeat (first | (refine go_E39 ?_; conv => whnf) | (refine lk_E39 ?_; conv => whnf))
    first | refine ⟨_, _, rfl, sc_E39 (l03Less_sat L B (by omega) (by omega) hLk.2 hbm.2 false false), ?_⟩ | refine .inl ⟨_, _, rfl, sc_E39 (l03Less_sat L B (by omega) (by omega) hLk.2 hbm.2 false false), ?_⟩
    conv => whnf
    repeat (first | (refine go_E39 ?_; conv => whnf) | (refine lk_E39 ?_; conv => whnf))
    cases h7 : decide (cmL L B < 0)
    · have h7' : ¬ cmL L B < 0 := by simpa using h7
      have e := no2 (by rw [hc]; omega)
      conv => whnf
      repeat (first | (refine go_E39 ?_; conv => whnf) | (refine lk_E39 ?_; conv => whnf))
      refine ⟨k + 1, ?_, ?_, sim_ofS rfl (rn := [((3, 0, 0), (3, 0, 0)), ((4, 0, 0), (4, 0, 0))]) rfl ?_ ?_⟩
      · (dsimp only; omega)
      · exact ⟨by omega, by omega⟩
      · ((repeat' (first | exact trivial | apply And.intro)) <;> (first | rfl | (first | exact congrArg (fun l => some (placesD true l)) e | exact vintS (by rw [e])) | exact leaf_E39))
      · ((repeat' (first | exact trivial | apply And.intro)) <;> ((first | refine ⟨_, _, rfl, rfl, ?_⟩ ); rfl))
    · have h7' : cmL L B < 0 := by simpa using h7
      have e := yes (by rw [hc]; omega) h4'
      conv => whnf
      repeat (first | (refine go_E39 ?_; conv => whnf) | (refine lk_E39 ?_; conv => whnf))
      refine ⟨k + 1, ?_, ?_, Sim.trans (frz_sim (id := (43, 1, 0)) (xs := placesC L) rfl rfl rfl) (sim_ofS rfl (rn := [((3, 0, 0), (3, 0, 0)), ((4, 0, 0), (4, 0, 0))]) rfl ?_ ?_)⟩
      · (dsimp only; omega)
      · exact ⟨by omega, by omega⟩
      · ((repeat' (first | exact trivial | apply And.intro)) <;> (first | rfl | (first | exact congrArg (fun l => some (placesD true l)) e | exact vintS (by rw [e])) | exact leaf_E39))
      · ((repeat' (first | exact trivial | apply And.intro)) <;> ((first | refine ⟨_, _, rfl, rfl, ?_⟩ ); rfl))
  · have h5' : afI r w L < afI r w B := by simpa using h5
    have e := yes (by rw [hc]; omega) h4'
    conv => whnf
    repeat (first | (refine go_E39 ?_; conv => whnf) | (refine lk_E39 ?_; conv => whnf))
    refine ⟨k + 1, ?_, ?_, Sim.trans (frz_sim (id := (43, 1, 0)) (xs := placesC L) rfl rfl rfl) (sim_ofS rfl (rn := [((3, 0, 0), (3, 0, 0)), ((4, 0, 0), (4, 0, 0))]) rfl ?_ ?_)⟩
    · (dsimp only; omega)
    · exact ⟨by omega, by omega⟩
    · ((repeat' (first | exact trivial | apply And.intro)) <;> (first | rfl | (first | exact congrArg (fun l => some (placesD true l)) e | exact vintS (by rw [e])) | exact leaf_E39))
    · ((repeat' (first | exact trivial | apply And.intro)) <;> ((first | refine ⟨_, _, rfl, rfl, ?_⟩ ); rfl))
theorem ldY_len (r : Roof) (w : Nat → Int) (m : Int) : (ldY r w m).length ≤ 10 := by
  unfold ldY
  split
  · rename_i h
    obtain ⟨h1, h2⟩ := frK_zero h
    obtain ⟨h3, h4⟩ := rnK_zero h1
    have := ldX_mem (r := r) (w := w) (m := m) (by unfold ldB at h4; simp at h4; exact h4.1)
    have := (rpA_mem (List.mem_filter.1 this).1).1
    omega
  · simp
theorem fnExactLeastDrip_sat (r : Roof) (hr : r.In) (w : Nat → Int) (hw : RaiIn w) (m : Int) (hm : I64 m) : Sat Try.prog 5 [roofD r, raiD w, .v (.int .i64 m)] (.v (.bool true)) := by
  have s1 := specLeastDrip_sat r hr w hw m
  have s2 := leastDrip_sat r hr w hw m
  unfold ldV at s1 s2
  have hl := ldY_len r w m
  generalize ldY r w m = ps at s1 s2 hl
  generalize frK r w (ldB m) = x at s1 s2
  generalize ldZ r w m = z at s1 s2
  refine sat_of_wp hMix tOk Try.func5 rfl rfl Try.ntmps5 rfl rfl Try.results5 (by kernel_rfl) ?_
  conv => whnf
  repeat (first | (refine go_E39 ?_; conv => whnf) | (refine lk_E39 ?_; conv => whnf))
  first | refine ⟨_, _, rfl, sc_E39 (toRoof_sat r), ?_⟩ | refine .inl ⟨_, _, rfl, sc_E39 (toRoof_sat r), ?_⟩
  conv => whnf
  repeat (first | (refine go_E39 ?_; conv => whnf) | (refine lk_E39 ?_; conv => whnf))
  first | refine ⟨_, _, rfl, sc_E39 (toRain_sat w), ?_⟩ | refine .inl ⟨_, _, rfl, sc_E39 (toRain_sat w), ?_⟩
  conv => whnf
  repeat (first | (refine go_E39 ?_; conv => whnf) | (refine lk_E39 ?_; conv => whnf))
  first | refine ⟨_, _, rfl, sc_E39 (s1), ?_⟩ | refine .inl ⟨_, _, rfl, sc_E39 (s1), ?_⟩
  conv => whnf
  repeat (first | (refine go_E39 ?_; conv => whnf) | (refine lk_E39 ?_; conv => whnf))
  first | refine ⟨_, _, rfl, sc_E39 (toRoof_sat r), ?_⟩ | refine .inl ⟨_, _, rfl, sc_E39 (toRoof_sat r), ?_⟩
  conv => whnf
  repeat (first | (refine go_E39 ?_; conv => whnf) | (refine lk_E39 ?_; conv => whnf))
  first | refine ⟨_, _, rfl, sc_E39 (toRain_sat w), ?_⟩ | refine .inl ⟨_, _, rfl, sc_E39 (toRain_sat w), ?_⟩
  conv => whnf
  repeat (first | (refine go_E39 ?_; conv => whnf) | (refine lk_E39 ?_; conv => whnf))
  first | refine ⟨_, _, rfl, sc_E39 (s2), ?_⟩ | refine .inl ⟨_, _, rfl, sc_E39 (s2), ?_⟩
  conv => whnf
  repeat (first | (refine go_E39 ?_; conv => whnf) | (refine lk_E39 ?_; conv => whnf))
  first | refine ⟨_, _, rfl, sc_E39 (eqPlaceS_same ps (by omega) false false), ?_⟩ | refine .inl ⟨_, _, rfl, sc_E39 (eqPlaceS_same ps (by omega) false false), ?_⟩
  conv => whnf
  repeat (first | (refine go_E39 ?_; conv => whnf) | (refine lk_E39 ?_; conv => whnf))
  rw [show (z != z) = false by simp]
  conv => whnf
  repeat (first | (refine go_E39 ?_; conv => whnf) | (refine lk_E39 ?_; conv => whnf))
  rw [show (x != x) = false by simp]
  conv => whnf
  repeat (first | (refine go_E39 ?_; conv => whnf) | (refine lk_E39 ?_; conv => whnf))
  first | refine ⟨[(34, 0, 0)], _, _, _, _, _, _, _, _, rfl, rfl, rfl, rfl, (sm_E39 (markPlaceS_satM (placesC ps) ps.length (by simp) (by omega) 1 (by omega))), rfl, rfl, rfl, rfl, ?_⟩ | refine .inr ⟨[(34, 0, 0)], _, _, _, _, _, _, _, _, rfl, rfl, rfl, rfl, (sm_E39 (markPlaceS_satM (placesC ps) ps.length (by simp) (by omega) 1 (by omega))), rfl, rfl, rfl, rfl, ?_⟩ | refine ⟨[(34, 0, 0)], _, _, _, _, _, rfl, rfl, rfl, rfl, (sm_E39 (markPlaceS_satM (placesC ps) ps.length (by simp) (by omega) 1 (by omega))), rfl, rfl, ?_⟩
  conv => whnf
  repeat (first | (refine go_E39 ?_; conv => whnf) | (refine lk_E39 ?_; conv => whnf))
  first | refine ⟨_, _, rfl, sc_E39 (heldPlaceS_sat ps.length (by omega) 1 (by omega) false), ?_⟩ | refine .inl ⟨_, _, rfl, sc_E39 (heldPlaceS_sat ps.length (by omega) 1 (by omega) false), ?_⟩
  conv => whnf
  repeat (first | (refine go_E39 ?_; conv => whnf) | (refine lk_E39 ?_; conv => whnf))
  rw [show (1 + 2 * (ps.length : Int) != 1 + 2 * (ps.length : Int)) = false by simp]
  conv => whnf
  repeat (first | (refine go_E39 ?_; conv => whnf) | (refine lk_E39 ?_; conv => whnf))
  first | refine ⟨_, _, rfl, sc_E39 (toRoof_sat r), ?_⟩ | refine .inl ⟨_, _, rfl, sc_E39 (toRoof_sat r), ?_⟩
  conv => whnf
  repeat (first | (refine go_E39 ?_; conv => whnf) | (refine lk_E39 ?_; conv => whnf))
  first | refine ⟨_, _, rfl, sc_E39 (toRain_sat w), ?_⟩ | refine .inl ⟨_, _, rfl, sc_E39 (toRain_sat w), ?_⟩
  conv => whnf
  repeat (first | (refine go_E39 ?_; conv => whnf) | (refine lk_E39 ?_; conv => whnf))
  first | refine ⟨_, _, rfl, sc_E39 (s2), ?_⟩ | refine .inl ⟨_, _, rfl, sc_E39 (s2), ?_⟩
  conv => whnf
  repeat (first | (refine go_E39 ?_; conv => whnf) | (refine lk_E39 ?_; conv => whnf))
  first | refine ⟨_, _, rfl, sc_E39 (eqPlaceS_same ps (by omega) false false), ?_⟩ | refine .inl ⟨_, _, rfl, sc_E39 (eqPlaceS_same ps (by omega) false false), ?_⟩
  conv => whnf
  repeat (first | (refine go_E39 ?_; conv => whnf) | (refine lk_E39 ?_; conv => whnf))
  rw [show (z != z) = false by simp]
  conv => whnf
  repeat (first | (refine go_E39 ?_; conv => whnf) | (refine lk_E39 ?_; conv => whnf))
  rw [show (x != x) = false by simp]
  conv => whnf
  repeat (first | (refine go_E39 ?_; conv => whnf) | (refine lk_E39 ?_; conv => whnf))
  first | refine ⟨_, _, rfl, sc_E39 (heldPlaceS_sat ps.length (by omega) 1 (by omega) false), ?_⟩ | refine .inl ⟨_, _, rfl, sc_E39 (heldPlaceS_sat ps.length (by omega) 1 (by omega) false), ?_⟩
  conv => whnf
  repeat (first | (refine go_E39 ?_; conv => whnf) | (refine lk_E39 ?_; conv => whnf))
  rw [show (1 + 2 * (ps.length : Int) != 1 + 2 * (ps.length : Int)) = false by simp]
  conv => whnf
  repeat (first | (refine go_E39 ?_; conv => whnf) | (refine lk_E39 ?_; conv => whnf))
  first | refine ⟨rfl, _, rfl, ?_⟩ | refine ⟨_, rfl, ?_⟩
  rfl
end Go.Proofs.Ytcjaihndhplclaa
