import Derived.Test.YtcjaihndhplclaaP3
set_option linter.unusedVariables false
set_option linter.unusedSimpArgs false
/- Contracts: of lists of lists of places those that are kept, and the first one. Printed by gene37.py. -/
set_option linter.unusedVariables false
set_option linter.unusedSimpArgs false
namespace Go.V
/- Words for the walks of this text: their default arguments are tried where they are used. -/
theorem go_E37 {P Q : Prop} (k : Q) (h : P := by first | exact Nat.le_of_ble_eq_true rfl | (simp [rep_length]; omega) | exact rfl | decide | omega | (simp [splice]; done) | (constructor <;> omega) | (simp [splice]; omega)) : P ∧ Q := ⟨h, k⟩
theorem lk_E37 {α : Type} {o : Option α} {K : α → Prop} {x : α} (k : K x) (h : o = some x := by first | exact intA (by omega) | exact intA' (by omega) | exact llA (by simp; omega) | exact llA' (by simp; omega) | exact llB (by omega) | exact llB0 (by omega)) : optK o K := optK_of h k
theorem sc_E37 {P : Program} {g : FuncId} {args args' : List D} {res : D} (h : Sat P g args res) (e : args' = args := by repeat (first | rfl | exact vfull (by first | (simp [splice]; done) | (simp [splice]; omega)) | exact rfull (by first | (simp [splice]; done) | (simp [splice]; omega)) | exact vfnP (by constructor <;> simp) | refine ceq ?_ ?_ )) : Sat P g args' res := Sat.of_eq h e
theorem leaf_E37 {P : Prop} (h : P := by first | rfl | exact succ8 (by omega) | exact succ64 (by omega) | exact CapOk.fn (by assumption) _ _ | exact vintS (by omega) | exact vintS (by rw [w64 (by omega) (by omega)]; omega) | exact vintS (by rw [w8 (by omega) (by omega)]; omega) | exact vslcS (by omega) | exact vslcS (by simp)) : P := h
theorem hold_E37 {P : Prop} (h : P := by (repeat' (first | exact trivial | apply And.intro)) <;> (first | rfl | exact succ8 (by omega) | exact succ64 (by omega) | exact CapOk.fn (by assumption) _ _ | exact vintS (by omega) | exact vintS (by rw [w64 (by omega) (by omega)]; omega) | exact vintS (by rw [w8 (by omega) (by omega)]; omega) | exact vslcS (by omega) | exact vslcS (by simp))) : P := h
theorem okt_E37 {P : Prop} (h : P := by first | omega | (dsimp only; omega) | ((repeat' apply And.intro) <;> omega) | (dsimp only; (repeat' apply And.intro) <;> omega) | trivial) : P := h
end Go.V
namespace Go.V
theorem renAL {rn : Rn} {fl : Bool} {ls : List (List Pl)} : renD rn depth (.agg (ls.map (placesD fl))) = some (.agg (ls.map (placesD fl))) := renAgg (n := 11) (mapO_selfF fun x => rfl)
theorem mapLL {f : Id → Option Id} {fl : Bool} {ls : List (List Pl)} : mapD true f depth (.agg (ls.map (placesD fl))) = some (.agg (ls.map (placesD fl))) := by
  show (match mapO (mapD true f 11) (ls.map (placesD fl)) with | some ds' => some (D.agg ds') | none => none) = _
  rw [mapO_selfF (f := mapD true f 11) fun x => rfl]
theorem mapO_nil {f : D → Option D} (h : f nilS = some nilS) : ∀ n, mapO f (List.replicate n nilS) = some (List.replicate n nilS)
  | 0 => rfl
  | n + 1 => by rw [List.replicate_succ, mapO, h, mapO_nil h n]
theorem kpRen {rn : Rn} {keep : List Pl → Bool} {ls : List (List Pl)} : renD rn depth (kpC keep ls) = some (kpC keep ls) := renAgg (n := 11) (mapO_app (mapO_selfF (f := renD rn 11) fun x => rfl) (mapO_nil (f := renD rn 11) rfl _))
theorem kpMap {f : Id → Option Id} {keep : List Pl → Bool} {ls : List (List Pl)} : mapD true f depth (kpC keep ls) = some (kpC keep ls) := by
  unfold kpC
  show (match mapO (mapD true f 11) (_ ++ _) with | some ds' => some (D.agg ds') | none => none) = _
  rw [mapO_app (mapO_selfF (f := mapD true f 11) fun x => rfl) (mapO_nil (f := mapD true f 11) rfl _)]
theorem mapO_deepF {m : Id → Option D} (ls : List (List Pl)) : mapO (deep false [] m 11) (ls.map (placesD true)) = some (ls.map (placesD false)) := by
  induction ls with
  | nil => rfl
  | cons x l ih => rw [List.map_cons, mapO, ih]; rfl
theorem deepLLs {fl : Bool} {id : Id} {m : Id → Option D} {ls : List (List Pl)} (hm : m id = some (.agg (ls.map (placesD true)))) : deep false [] m depth (.slc fl 1 id 0 ls.length) = some (.row false 1 (.agg (ls.map (placesD false))) ls.length) := by
  show (match m id with
    | some (.v (.agg a)) => some (D.row false 1 (.v (.agg ⟨(a.toList.drop 0).take (ls.length * 1)⟩)) ls.length)
    | some (.agg ds) => (match mapO (deep false [] m 11) ((ds.drop 0).take (ls.length * 1)) with | some ds' => some (D.row false 1 (.agg ds') ls.length) | none => none)
    | _ => none) = _
  rw [hm]
  have e : (List.drop 0 (ls.map (placesD true))).take (ls.length * 1) = ls.map (placesD true) := by rw [List.drop_zero, Nat.mul_one]; exact take_full (by simp)
  dsimp only
  rw [e, mapO_deepF]
theorem dl_end {keep : List Pl → Bool} {ls : List (List Pl)} {o n : Nat} {zs : List Value} (ho : o = (ls.filter keep).length) (hz : zs = rep n [.slice none 0 0]) (hn : n = ls.length - o) :
    D.agg (splice ((dlX keep ls ls.length).map (placesD true)) o (zs.map D.v)) = kpC keep ls := by
  subst hz
  have h1 := (dlX_spec keep ls ls.length (Nat.le_refl _)).1
  rw [List.take_length] at h1
  have hle := List.length_filter_le keep ls
  have hr : ∀ k, (rep k [Value.slice none 0 0]).map D.v = List.replicate k nilS := by
    intro k
    unfold rep
    induction k with
    | zero => rfl
    | succ k ih => rw [List.replicate_succ, List.flatten_cons, List.map_append, ih]; rfl
  unfold splice kpC
  rw [hr, List.length_replicate, ← List.map_take, ho, h1, List.drop_eq_nil_of_le (by simp; omega), List.append_nil, hn, ho]
theorem set_map {ls : List (List Pl)} {o i : Nat} {l : List Pl} (ho : o = i) : (ls.map (placesD true)).set o (placesD true l) = (ls.set i l).map (placesD true) := by
  subst ho; rw [List.map_set]
theorem all_kp {keep : List Pl → Bool} {ls : List (List Pl)} (h : ∀ i, i < ls.length → keep (lx ls i) = true) : ls.all keep = true ∧ ls.filter keep = ls := by
  have h' : ∀ x ∈ ls, keep x = true := by
    intro x hx
    obtain ⟨i, hi, rfl⟩ := List.getElem_of_mem hx
    have := h i hi
    unfold lx at this
    rw [List.getD_eq_getElem?_getD, List.getElem?_eq_getElem hi] at this
    exact this
  exact ⟨List.all_eq_true.2 h', List.filter_eq_self.2 h'⟩
theorem mapO_two {f : D → Option D} {a b x y : D} (h1 : f a = some x) (h2 : f b = some y) : mapO f [a, b] = some [x, y] := by simp only [mapO, h1, h2]
theorem lx_mem {ls : List (List Pl)} {i : Nat} (h : i < ls.length) : lx ls i ∈ ls := List.mem_of_getElem? (lx_some h)
theorem minX_mem (c : List Pl → List Pl → Int) (m : List Pl) : ∀ (l : List (List Pl)), minX c m l ∈ m :: l := by
  intro l
  refine snoc_ind (P := fun l => minX c m l ∈ m :: l) (by simp [minX]) (fun l x ih => ?_) l
  rw [minX_snoc]
  split
  · simp
  · simp only [List.mem_cons, List.mem_append, List.not_mem_nil, or_false] at ih ⊢
    rcases ih with h | h
    · exact .inl h
    · exact .inr (.inl h)
theorem drop1_take {ls : List (List Pl)} {i : Nat} (h : i + 1 < ls.length) : (ls.drop 1).take (i + 1) = (ls.drop 1).take i ++ [lx ls (i + 1)] := by
  rw [List.take_add_one, List.getElem?_drop, show 1 + i = i + 1 by omega, lx_some h]; rfl
theorem idxN_neg {n : Nat} {p : Nat → Bool} (h : idxN n p = -1) : ∀ j, j < n → p j = false := by
  intro j hj
  cases hp : p j
  · rfl
  · exfalso
    unfold idxN at h
    cases hf : (List.range n).find? p with
    | none => have := List.find?_eq_none.1 hf j (by simpa using hj); simp [hp] at this
    | some i => rw [hf] at h; simp at h
theorem idxN_first {n : Nat} {p : Nat → Bool} (h : ¬ idxN n p = -1) : ∃ i, i < n ∧ idxN n p = i ∧ p i = true ∧ ∀ j, j < i → p j = false := by
  unfold idxN at h ⊢
  revert h
  cases hf : (List.range n).find? p with
  | none => intro h; exact absurd rfl h
  | some i =>
    intro h
    refine ⟨i, by have := List.mem_of_find?_eq_some hf; simpa using this, rfl, List.find?_some hf, fun j hj => ?_⟩
    have := List.find?_range_eq_some.1 hf
    have := this.2.2 j hj
    simpa using this
end Go.V
namespace Go.Proofs.Ytcjaihndhplclaa
open Go.V
set_option maxRecDepth 8000 in
theorem deleteFunc3_satL {g : Nat} {keep : List Pl → Bool} {x1 x2 x3 : List Value} (ls : List (List Pl)) (hl : 0 < ls.length ∧ ls.length ≤ 4096) (hg : ∀ l ∈ ls, Sat Try.prog g (placesD false l :: [.ref false (.v (.agg ⟨x1⟩)) 0, .ref false (.v (.agg ⟨x2⟩)) 0, .ref false (.v (.agg ⟨x3⟩)) 0]) (.v (.bool (!keep l)))) :
    SatB true Try.prog 54 [.slc true 1 (lentId 0) 0 ls.length, .fn (.func g) [] [.ptr (lentId 1) 0, .ptr (lentId 2) 0, .ptr (lentId 3) 0]] [.agg (ls.map (placesD true)), .v (.agg ⟨x1⟩), .v (.agg ⟨x2⟩), .v (.agg ⟨x3⟩)]
      (.slc (ls.all keep) 1 (lentId 0) 0 (ls.filter keep).length) [some (kpC keep ls), some (.v (.agg ⟨x1⟩)), some (.v (.agg ⟨x2⟩)), some (.v (.agg ⟨x3⟩))] [] := by
  refine satL_of_wp hMix tOk Try.func54 rfl rfl Try.ntmps54 rfl rfl Try.results54 (by kernel_rfl) ?_
  conv => whnf
  repeat (first | (refine go_E37 ?_; conv => whnf) | (refine lk_E37 ?_; conv => whnf))
  refine ⟨[.row false 1 (.agg (ls.map (placesD false))) ls.length, .fn (.func g) [] [.ref false (.v (.agg ⟨x1⟩)) 0, .ref false (.v (.agg ⟨x2⟩)) 0, .ref false (.v (.agg ⟨x3⟩)) 0]], _, ?_, indexFuncLL_sat (g := g) (caps := [.ref false (.v (.agg ⟨x1⟩)) 0, .ref false (.v (.agg ⟨x2⟩)) 0, .ref false (.v (.agg ⟨x3⟩)) 0]) (del := fun l => !keep l) ls (by omega) ⟨fun _ => rfl, fun _ => rfl⟩ (fun i hi => hg _ (lx_mem hi)) false, ?_⟩
  · exact mapO_two (deepLLs rfl) rfl
  conv => whnf
  repeat (first | (refine go_E37 ?_; conv => whnf) | (refine lk_E37 ?_; conv => whnf))
  cases h0 : (idxN ls.length (fun i => !keep (lx ls i)) == -1)
  case true =>
    have hall := idxN_neg (by simpa using h0)
    obtain ⟨ha, hf⟩ := all_kp (keep := keep) (ls := ls) fun i hi => by have := hall i hi; simpa using this
    have hk : kpC keep ls = .agg (ls.map (placesD true)) := by unfold kpC; rw [hf, Nat.sub_self]; simp
    rw [ha, hf, hk]
    conv => whnf
    repeat (first | (refine go_E37 ?_; conv => whnf) | (refine lk_E37 ?_; conv => whnf))
    refine ⟨[], _, rfl, rfl, rfl, rfl, ⟨⟨_, rfl, ?_⟩, ⟨_, rfl, rfl⟩, ⟨_, rfl, rfl⟩, ⟨_, rfl, rfl⟩, trivial⟩, rfl⟩
    exact mapLL
  obtain ⟨i0, hi0, he0, hk0, hb0⟩ := idxN_first (n := ls.length) (p := fun i => !keep (lx ls i)) (by simpa using h0)
  rw [he0]
  have hsame := dlX_same (keep := keep) (ls := ls) (j := i0) (by omega) fun i hi => by have := hb0 i hi; simpa using this
  have hno : keep (lx ls i0) = false := by simpa using hk0
  have hd1 : dlX keep ls (i0 + 1) = ls := by simp only [dlX, hno]; exact hsame.1
  have hc1 : ((ls.take (i0 + 1)).filter keep).length = i0 := by rw [keep_no hi0 hno]; exact hsame.2
  have hall : ls.all keep = false := by
    rw [List.all_eq_false]
    exact ⟨_, lx_mem hi0, by simp [hno]⟩
  rw [hall]
  conv => whnf
  repeat (first | (refine go_E37 ?_; conv => whnf) | (refine lk_E37 ?_; conv => whnf))
  refine loop_rule (α := Nat) (fun j => [(0, .slc true 1 (lentId 0) 0 ls.length), (1, .fn (.func g) [] [.ptr (lentId 1) 0, .ptr (lentId 2) 0, .ptr (lentId 3) 0]), (5, .v (.int .i64 ((ls.take j).filter keep).length)), (6, .v (.int .i64 j))]) (fun j => [(lentId 0, .agg ((dlX keep ls j).map (placesD true))), (lentId 1, .v (.agg ⟨x1⟩)), (lentId 2, .v (.agg ⟨x2⟩)), (lentId 3, .v (.agg ⟨x3⟩))]) (fun j => j ≤ ls.length ∧ i0 < j ∧ ((ls.take j).filter keep).length < j) (fun j => ls.length - j) (i0 + 1) ?_ (sim_of (rn := []) rfl ?_ ?_) ?_
  · exact ⟨by omega, by omega, by omega⟩
  · ((repeat' (first | exact trivial | apply And.intro)) <;> (first | rfl | (exact vintS (by rw [hc1])) | exact leaf_E37))
  · ((repeat' (first | exact trivial | apply And.intro)) <;> ((first | refine ⟨_, _, rfl, rfl, ?_⟩ | refine ⟨_, _, rfl, renAL, ?_⟩ | refine ⟨_, _, rfl, kpRen, ?_⟩ | refine ⟨_, _, rfl, hkr _, ?_⟩); first | (first | (rw [hd1]; rfl) | rfl) | rfl))
  rintro j ⟨hj, hij, hcj⟩
  have hxl := dlX_len keep ls j
  have hsp := dlX_spec keep ls j hj
  conv => whnf
  repeat (first | (refine go_E37 ?_; conv => whnf) | (refine lk_E37 ?_; conv => whnf))
  cases h1 : decide ((j : Int) < (ls.length : Int))
  · have hjn : j = ls.length := by simp at h1; omega
    subst hjn
    rw [List.take_length] at hcj
    rw [List.take_length]
    conv => whnf
    repeat (first | (refine go_E37 ?_; conv => whnf) | (refine lk_E37 ?_; conv => whnf))
    refine ⟨?_, ?_⟩
    · show 0 + (((ls.filter keep).length : Nat) : Int).toNat * 1 + (rep ((ls.length : Int).toNat - ((ls.filter keep).length : Int).toNat) [Value.slice none 0 0]).length ≤ _
      rw [rep_length]
      simp
      omega
    conv => whnf
    repeat (first | (refine go_E37 ?_; conv => whnf) | (refine lk_E37 ?_; conv => whnf))
    refine ⟨[], _, rfl, rfl, rfl, ?_, ⟨⟨_, rfl, ?_⟩, ⟨_, rfl, rfl⟩, ⟨_, rfl, rfl⟩, ⟨_, rfl, rfl⟩, trivial⟩, rfl⟩
    · exact congrArg (D.slc false 1 (lentId 0) 0) (by show _ = (((ls.filter keep).length : Nat) : Int).toNat - 0; omega)
    · exact (congrArg (mapD true (outF []) depth) (dl_end (keep := keep) (ls := ls) (o := 0 + (((ls.filter keep).length : Nat) : Int).toNat * 1) (n := (ls.length : Int).toNat - (((ls.filter keep).length : Nat) : Int).toNat) (by omega) rfl (by omega))).trans kpMap
  have hjn : j < ls.length := by simpa using h1
  have hat := dlX_at (keep := keep) hjn
  conv => whnf
  repeat (first | (refine go_E37 ?_; conv => whnf) | (refine lk_E37 ?_; conv => whnf))
  rw [hat]
  first | refine ⟨_, _, rfl, sc_E37 (hg _ (lx_mem hjn)), ?_⟩ | refine .inl ⟨_, _, rfl, sc_E37 (hg _ (lx_mem hjn)), ?_⟩
  conv => whnf
  repeat (first | (refine go_E37 ?_; conv => whnf) | (refine lk_E37 ?_; conv => whnf))
  cases hk : keep (lx ls j)
  · conv => whnf
    repeat (first | (refine go_E37 ?_; conv => whnf) | (refine lk_E37 ?_; conv => whnf))
    have e := keep_no hjn hk
    refine ⟨j + 1, ?_, ?_, sim_of (rn := []) rfl ?_ ?_⟩
    · (dsimp only; omega)
    · exact ⟨by omega, by omega, by rw [e]; omega⟩
    · ((repeat' (first | exact trivial | apply And.intro)) <;> (first | rfl | (exact vintS (by rw [e])) | exact leaf_E37))
    · ((repeat' (first | exact trivial | apply And.intro)) <;> ((first | refine ⟨_, _, rfl, rfl, ?_⟩ | refine ⟨_, _, rfl, renAL, ?_⟩ | refine ⟨_, _, rfl, kpRen, ?_⟩ | refine ⟨_, _, rfl, hkr _, ?_⟩); first | (exact congrArg (fun l => some (D.agg (List.map (placesD true) l))) (by simp only [dlX, hk]; rfl)) | rfl))
  · have e := keep_yes hjn hk
    have e2 : dlX keep ls (j + 1) = (dlX keep ls j).set ((ls.take j).filter keep).length (lx ls j) := by simp only [dlX, hk, if_true]
    conv => whnf
    repeat (first | (refine go_E37 ?_; conv => whnf) | (refine lk_E37 ?_; conv => whnf))
    refine ⟨j + 1, ?_, ?_, sim_of (rn := []) rfl ?_ ?_⟩
    · (dsimp only; omega)
    · exact ⟨by omega, by omega, by rw [e, List.length_append, List.length_singleton]; omega⟩
    · ((repeat' (first | exact trivial | apply And.intro)) <;> (first | rfl | (exact vintS (by rw [e, List.length_append, w64 (by omega) (by omega)]; rfl)) | exact leaf_E37))
    · ((repeat' (first | exact trivial | apply And.intro)) <;> ((first | refine ⟨_, _, rfl, rfl, ?_⟩ | refine ⟨_, _, rfl, renAL, ?_⟩ | refine ⟨_, _, rfl, kpRen, ?_⟩ | refine ⟨_, _, rfl, hkr _, ?_⟩); first | (exact (congrArg (fun l => some (D.agg l)) ((set_map (ls := dlX keep ls j) (o := 0 + (((ls.take j).filter keep).length : Int).toNat * 1) (i := ((ls.take j).filter keep).length) (l := lx ls j) (by omega)).trans (congrArg (List.map (placesD true)) e2.symm)))) | rfl))
set_option maxRecDepth 8000 in
theorem minFunc0_satL {g : Nat} {keep : List Pl → Bool} {c : List Pl → List Pl → Int} (ls0 ls : List (List Pl)) (fl : Bool) (hls : ls0.filter keep = ls) (hl : 0 < ls.length ∧ ls.length ≤ 4096) (hg : ∀ x ∈ ls, ∀ y ∈ ls, Sat Try.prog g (placesD false x :: placesD false y :: []) (.v (.int .i64 (c x y)))) :
    SatB true Try.prog 57 [.slc fl 1 (lentId 0) 0 ls.length, .fn (.func g) [] []] [kpC keep ls0]
      (placesD true (minX c (lx ls 0) (ls.drop 1))) [some (kpC keep ls0)] [] := by
  have hkp : kpC keep ls0 = .agg (ls.map (placesD true) ++ List.replicate (ls0.length - ls.length) nilS) := by unfold kpC; rw [hls]
  have hkr : ∀ rn : Rn, renD rn depth (.agg (ls.map (placesD true) ++ List.replicate (ls0.length - ls.length) nilS)) = some (.agg (ls.map (placesD true) ++ List.replicate (ls0.length - ls.length) nilS)) := fun rn => by rw [← hkp]; exact kpRen
  have hkm : ∀ f : V.Id → Option V.Id, mapD true f depth (.agg (ls.map (placesD true) ++ List.replicate (ls0.length - ls.length) nilS)) = some (.agg (ls.map (placesD true) ++ List.replicate (ls0.length - ls.length) nilS)) := fun f => by rw [← hkp]; exact kpMap
  rw [hkp]
  refine satL_of_wp hMix tOk Try.func57 rfl rfl Try.ntmps57 rfl rfl Try.results57 (by kernel_rfl) ?_
  conv => whnf
  repeat (first | (refine go_E37 ?_; conv => whnf) | (refine lk_E37 ?_; conv => whnf))
  rw [show decide ((ls.length : Int) < 1) = false by simp; omega]
  conv => whnf
  repeat (first | (refine go_E37 ?_; conv => whnf) | (refine lk_E37 ?_; conv => whnf))
  refine loop_rule (α := Nat) (fun i => [(0, .slc fl 1 (lentId 0) 0 ls.length), (1, .fn (.func g) [] []), (5, placesD true (minX c (lx ls 0) ((ls.drop 1).take i))), (6, .v (.int .i64 ((i + 1 : Nat) : Int)))]) (fun i => [(lentId 0, .agg (ls.map (placesD true) ++ List.replicate (ls0.length - ls.length) nilS))]) (fun i => i + 1 ≤ ls.length) (fun i => ls.length - i) (0) ?_ (sim_of (rn := []) rfl ?_ ?_) ?_
  · exact okt_E37
  · exact hold_E37
  · ((repeat' (first | exact trivial | apply And.intro)) <;> ((first | refine ⟨_, _, rfl, rfl, ?_⟩ | refine ⟨_, _, rfl, renAL, ?_⟩ | refine ⟨_, _, rfl, kpRen, ?_⟩ | refine ⟨_, _, rfl, hkr _, ?_⟩); rfl))
  intro i hi
  conv => whnf
  repeat (first | (refine go_E37 ?_; conv => whnf) | (refine lk_E37 ?_; conv => whnf))
  cases h1 : decide (((i + 1 : Nat) : Int) < (ls.length : Int))
  · have h8 : i = ls.length - 1 := by simp at h1; omega
    rw [h8, List.take_of_length_le (by simp)]
    conv => whnf
    repeat (first | (refine go_E37 ?_; conv => whnf) | (refine lk_E37 ?_; conv => whnf))
    refine ⟨[], _, rfl, rfl, rfl, rfl, ⟨⟨_, rfl, hkm _⟩, trivial⟩, rfl⟩
  have hlt : i + 1 < ls.length := by simp at h1; omega
  have hm : minX c (lx ls 0) ((ls.drop 1).take i) ∈ ls := by
    have := minX_mem c (lx ls 0) ((ls.drop 1).take i)
    rcases List.mem_cons.1 this with h | h
    · rw [h]; exact lx_mem (by omega)
    · exact List.mem_of_mem_drop (List.mem_of_mem_take h)
  have hs := minX_snoc c (lx ls 0) ((ls.drop 1).take i) (lx ls (i + 1))
  rw [← drop1_take hlt] at hs
  generalize hme : minX c (lx ls 0) ((ls.drop 1).take i) = x0 at *
  conv => whnf
  repeat (first | (refine go_E37 ?_; conv => whnf) | (refine lk_E37 ?_; conv => whnf))
  first | refine ⟨_, _, rfl, sc_E37 (hg _ (lx_mem hlt) x0 hm), ?_⟩ | refine .inl ⟨_, _, rfl, sc_E37 (hg _ (lx_mem hlt) x0 hm), ?_⟩
  conv => whnf
  repeat (first | (refine go_E37 ?_; conv => whnf) | (refine lk_E37 ?_; conv => whnf))
  cases h2 : decide (c (lx ls (i + 1)) x0 < 0)
  · rw [if_neg (by simpa using h2)] at hs
    conv => whnf
    repeat (first | (refine go_E37 ?_; conv => whnf) | (refine lk_E37 ?_; conv => whnf))
    refine ⟨i + 1, ?_, ?_, sim_of (rn := []) rfl ?_ ?_⟩
    · (dsimp only; omega)
    · exact okt_E37
    · ((repeat' (first | exact trivial | apply And.intro)) <;> (first | rfl | (exact congrArg (fun l => some (placesD true l)) hs) | exact leaf_E37))
    · ((repeat' (first | exact trivial | apply And.intro)) <;> ((first | refine ⟨_, _, rfl, rfl, ?_⟩ | refine ⟨_, _, rfl, renAL, ?_⟩ | refine ⟨_, _, rfl, kpRen, ?_⟩ | refine ⟨_, _, rfl, hkr _, ?_⟩); rfl))
  · rw [if_pos (by simpa using h2)] at hs
    conv => whnf
    repeat (first | (refine go_E37 ?_; conv => whnf) | (refine lk_E37 ?_; conv => whnf))
    refine ⟨i + 1, ?_, ?_, sim_of (rn := []) rfl ?_ ?_⟩
    · (dsimp only; omega)
    · exact okt_E37
    · ((repeat' (first | exact trivial | apply And.intro)) <;> (first | rfl | (exact congrArg (fun l => some (placesD true l)) hs) | exact leaf_E37))
    · ((repeat' (first | exact trivial | apply And.intro)) <;> ((first | refine ⟨_, _, rfl, rfl, ?_⟩ | refine ⟨_, _, rfl, renAL, ?_⟩ | refine ⟨_, _, rfl, kpRen, ?_⟩ | refine ⟨_, _, rfl, hkr _, ?_⟩); rfl))
end Go.Proofs.Ytcjaihndhplclaa
/- Contracts: the fewest repairs, the repairs with the least drips, both sides. -/
set_option linter.unusedVariables false
set_option linter.unusedSimpArgs false
namespace Go.V
/- Words for the walks of this text: their default arguments are tried where they are used. -/
theorem go_E38 {P Q : Prop} (k : Q) (h : P := by first | exact Nat.le_of_ble_eq_true rfl | exact rfl | decide | omega | (simp [splice]; done) | (constructor <;> omega) | (simp [splice]; omega)) : P ∧ Q := ⟨h, k⟩
theorem lk_E38 {α : Type} {o : Option α} {K : α → Prop} {x : α} (k : K x) (h : o = some x := by first | exact raiA (by omega) | exact raiA' (by omega) | exact roofN (by omega) (by omega) | exact gridN (by omega) (by omega) | exact intA (by omega) | exact intA' (by omega) | exact placeA (by omega) | exact placeB (by omega) | exact placeA' (by omega) | exact placeB' (by omega)) : optK o K := optK_of h k
theorem sc_E38 {P : Program} {g : FuncId} {args args' : List D} {res : D} (h : Sat P g args res) (e : args' = args := by repeat (first | rfl | exact vfull (by first | (simp [splice]; done) | (simp [splice]; omega)) | exact rfull (by first | (simp [splice]; done) | (simp [splice]; omega)) | exact vplace (by simp; done) (by omega) | exact vrow (by simp; done) (by omega) | exact vtiles (by simp) | exact vsplice (by simp) (by simp) | refine ceq ?_ ?_ | refine Eq.trans (vsplice (by first | (simp; done) | (simp; omega)) (by first | (simp; done) | (simp; omega))) ?_)) : Sat P g args' res := Sat.of_eq h e
theorem leaf_E38 {P : Prop} (h : P := by first | rfl | exact succ8 (by omega) | exact succ64 (by omega) | exact CapOk.fn (by assumption) _ _ | exact vintS (by omega) | exact vintS (by rw [w64 (by omega) (by omega)]; omega) | exact vintS (by rw [w8 (by omega) (by omega)]; omega) | exact vslcS (by omega) | exact vslcS (by simp)) : P := h
theorem hold_E38 {P : Prop} (h : P := by (repeat' (first | exact trivial | apply And.intro)) <;> (first | rfl | exact succ8 (by omega) | exact succ64 (by omega) | exact CapOk.fn (by assumption) _ _ | exact vintS (by omega) | exact vintS (by rw [w64 (by omega) (by omega)]; omega) | exact vintS (by rw [w8 (by omega) (by omega)]; omega) | exact vslcS (by omega) | exact vslcS (by simp))) : P := h
theorem okt_E38 {P : Prop} (h : P := by first | omega | (dsimp only; omega) | ((repeat' apply And.intro) <;> omega) | (dsimp only; (repeat' apply And.intro) <;> omega) | trivial) : P := h
end Go.V
namespace Go.V
theorem wrP_in {r : Roof} (hb : Rb r) : AllIn (wrP r) := allP_in hb (wrB r)
theorem rp_in {r : Roof} (hb : Rb r) {l : List Pl} (h : ∀ q ∈ l, q ∈ wrP r) : AllIn l := by
  intro i hi
  obtain ⟨j, hj, e⟩ := List.getElem_of_mem (h _ (nthP_mem hi))
  have := wrP_in hb j hj
  have e2 := nthP_some hj
  rw [List.getElem?_eq_getElem hj] at e2
  rw [Option.some.inj e2] at e
  rw [e] at this; exact this
theorem mapO_four {α β : Type} {f : α → Option β} {a b c d : α} {x y z u : β} (h1 : f a = some x) (h2 : f b = some y) (h3 : f c = some z) (h4 : f d = some u) : mapO f [a, b, c, d] = some [x, y, z, u] := by simp only [mapO, h1, h2, h3, h4]
theorem mapO_single {α β : Type} {f : α → Option β} {a : α} {x : β} (h1 : f a = some x) : mapO f [a] = some [x] := by simp only [mapO, h1]
theorem lendLL {m : Id → Option D} {f : Id → Option Id} {id : Id} {ls : List (List Pl)} (h : m id = some (.agg (ls.map (placesD true)))) : lendC true m f id = some (.agg (ls.map (placesD true))) := by
  unfold lendC; rw [h]; exact mapLL
theorem lendKP {m : Id → Option D} {f : Id → Option Id} {id : Id} {keep : List Pl → Bool} {ls : List (List Pl)} (h : m id = some (kpC keep ls)) : lendC true m f id = some (kpC keep ls) := by
  unfold lendC; rw [h]; exact kpMap
theorem backKP {f : Id → Option Id} {keep : List Pl → Bool} {ls : List (List Pl)} : backC f (some (kpC keep ls)) = some (some (kpC keep ls)) := by
  show (match mapD true f depth (kpC keep ls) with | some c' => some (some c') | none => none) = _
  rw [kpMap]
theorem rpA_len (r : Roof) : (rpA r).length = rpN r := by unfold rpA; simp
theorem ll_cons {fl m : Bool} {ls : List (List Pl)} (h : 0 < ls.length) : llD m ls = .row m 1 (.agg (ls.map (placesD true))) ls.length := by
  cases ls with
  | nil => simp at h
  | cons x l => rfl
theorem cmF_lt (x y : List Pl) : cmF x y < 0 ↔ x.length < y.length ∨ (x.length = y.length ∧ cmL x y < 0) := by
  unfold cmF
  split
  · rename_i h; rw [cmpI_ne] at h; rw [cmpI_lt]; omega
  · rename_i h; rw [cmpI_ne] at h; omega
theorem shl64 {n : Nat} (h : n ≤ 10) : IntKind.i64.wrap (1 * 2 ^ (min (IntKind.u64.wrap (n : Int)).toNat IntKind.i64.bits)) = ((2 ^ n : Nat) : Int) := by
  rw [wu64 (by omega) (by omega), show min (n : Int).toNat IntKind.i64.bits = n by show min (n : Int).toNat 64 = _; omega, Int.one_mul]
  have e : (2 : Int) ^ n = ((2 ^ n : Nat) : Int) := by push_cast; rfl
  have hp : (2 : Nat) ^ n ≤ 2 ^ 10 := Nat.pow_le_pow_right (by omega) h
  rw [e]
  generalize (2 : Nat) ^ n = z at *
  exact w64 (by omega) (by omega)
theorem selX_mem {c : List Pl → List Pl → Int} {sel : Nat → Bool} {L : Nat → List Pl} {m : List Pl} : ∀ {k : Nat}, selX c sel L m k = m ∨ ∃ j, j < k ∧ selX c sel L m k = L j
  | 0 => .inl rfl
  | k + 1 => by
    simp only [selX]
    split
    · exact .inr ⟨k, by omega, rfl⟩
    · rcases selX_mem (c := c) (sel := sel) (L := L) (m := m) (k := k) with h | ⟨j, hj, h⟩
      · exact .inl h
      · exact .inr ⟨j, by omega, h⟩
end Go.V
namespace Go.Proofs.Ytcjaihndhplclaa
open Go.V
def frK (r : Roof) (w : Nat → Int) (b : Bool) : Int := if rnK r w b = 0 ∧ 10 < (wrP r).length then 3 else rnK r w b
def frY (r : Roof) (w : Nat → Int) (b : Int) : List Pl := if frK r w (decide (b ≥ 0)) = 0 then frX r w b else []
def frV (r : Roof) (w : Nat → Int) (b : Int) : D := .tup [placesD true (frY r w b), .v (.int .i64 (frK r w (decide (b ≥ 0))))]
theorem rnK_zero {r : Roof} {w : Nat → Int} {b : Bool} (h : rnK r w b = 0) : okN r w = true ∧ b = true := by
  unfold rnK at h
  split at h
  · rename_i h1
    split at h
    · rename_i h2; exact ⟨h1, h2⟩
    · cases h
  · cases h
theorem frK_zero {r : Roof} {w : Nat → Int} {b : Bool} (h : frK r w b = 0) : rnK r w b = 0 ∧ (wrP r).length ≤ 10 := by
  unfold frK at h
  split at h
  · cases h
  · rename_i h1; exact ⟨h, by omega⟩
theorem fewest1_del_sat (r : Roof) (hr : r.In) (hb : Rb r) (w : Nat → Int) (hw : W1 w) (b : Int) (l : List Pl) (hl : l.length ≤ 1048576) (hin : AllIn l) :
    Sat Try.prog 56 [placesD false l, .ref false (.v (.agg ⟨roofC r⟩)) 0, .ref false (.v (.agg ⟨raiC w⟩)) 0, .ref false (.v (.agg ⟨[.int .i64 b]⟩)) 0] (.v (.bool (!frS r w b l))) := by
  refine sat_of_wp hMix tOk Try.func56 rfl rfl Try.ntmps56 rfl rfl Try.results56 (by kernel_rfl) ?_
  conv => whnf
  repeat (first | (refine go_E38 ?_; conv => whnf) | (refine lk_E38 ?_; conv => whnf))
  first | refine ⟨_, _, rfl, sc_E38 (after_sat r hr hb w hw l hl hin false), ?_⟩ | refine .inl ⟨_, _, rfl, sc_E38 (after_sat r hr hb w hw l hl hin false), ?_⟩
  conv => whnf
  repeat (first | (refine go_E38 ?_; conv => whnf) | (refine lk_E38 ?_; conv => whnf))
  first | refine ⟨rfl, _, rfl, ?_⟩ | refine ⟨_, rfl, ?_⟩
  skip
  unfold frS
  rw [show (!decide (afI r w l ≤ b)) = decide (afI r w l > b) by rw [← decide_not, decide_eq_decide]; omega]; rfl
theorem fewest2_sat (x y : List Pl) (hx : x.length ≤ 1048576) (hy : y.length ≤ 1048576) : Sat Try.prog 58 [placesD false x, placesD false y] (.v (.int .i64 (cmF x y))) := by
  refine sat_of_wp hMix tOk Try.func58 rfl rfl Try.ntmps58 rfl rfl Try.results58 (by kernel_rfl) ?_
  conv => whnf
  repeat (first | (refine go_E38 ?_; conv => whnf) | (refine lk_E38 ?_; conv => whnf))
  first | refine ⟨_, _, rfl, sc_E38 (compareI_sat _ _), ?_⟩ | refine .inl ⟨_, _, rfl, sc_E38 (compareI_sat _ _), ?_⟩
  conv => whnf
  repeat (first | (refine go_E38 ?_; conv => whnf) | (refine lk_E38 ?_; conv => whnf))
  first | refine ⟨_, _, rfl, sc_E38 (compareLists_sat x y hx hy false false), ?_⟩ | refine .inl ⟨_, _, rfl, sc_E38 (compareLists_sat x y hx hy false false), ?_⟩
  conv => whnf
  repeat (first | (refine go_E38 ?_; conv => whnf) | (refine lk_E38 ?_; conv => whnf))
  first | refine ⟨_, _, rfl, sc_E38 (or2_sat _ _ false), ?_⟩ | refine .inl ⟨_, _, rfl, sc_E38 (or2_sat _ _ false), ?_⟩
  conv => whnf
  repeat (first | (refine go_E38 ?_; conv => whnf) | (refine lk_E38 ?_; conv => whnf))
  first | refine ⟨rfl, _, rfl, ?_⟩ | refine ⟨_, rfl, ?_⟩
  rfl
theorem repairsR_sat (r : Roof) (hr : r.In) (hb : Rb r) (hn : (wrP r).length ≤ 10) : Sat Try.prog 55 [roofD r] (.row true 1 (.agg ((rpA r).map (placesD true))) (rpA r).length) := by
  have := repairs_sat r hr hb hn
  rw [ll_cons (fl := true) (by rw [rpA_len]; exact rpN_pos r)] at this
  exact this
set_option maxRecDepth 8000 in
theorem fewestRepairs_sat (r : Roof) (hr : r.In) (w : Nat → Int) (hw : RaiIn w) (b : Int) : Sat Try.prog 23 [roofD r, raiD w, .v (.int .i64 b)] (frV r w b) := by
  unfold frV
  refine satS_of_wp hMix tOk Try.func23 rfl rfl Try.ntmps23 rfl rfl Try.results23 (by kernel_rfl) ?_
  conv => whnf
  repeat (first | (refine go_E38 ?_; conv => whnf) | (refine lk_E38 ?_; conv => whnf))
  first | refine ⟨_, _, rfl, sc_E38 (repairCode_sat r hr w hw _), ?_⟩ | refine .inl ⟨_, _, rfl, sc_E38 (repairCode_sat r hr w hw _), ?_⟩
  conv => whnf
  repeat (first | (refine go_E38 ?_; conv => whnf) | (refine lk_E38 ?_; conv => whnf))
  rw [show (if rnK r w (decide (b ≥ 0)) = 0 ∧ 10 < (wrP r).length then (3 : Int) else rnK r w (decide (b ≥ 0))) = frK r w (decide (b ≥ 0)) from rfl]
  cases h : (frK r w (decide (b ≥ 0)) != 0)
  case true =>
    have h' : ¬ frK r w (decide (b ≥ 0)) = 0 := by simpa using h
    rw [show frY r w b = [] by unfold frY; rw [if_neg h']]
    conv => whnf
    repeat (first | (refine go_E38 ?_; conv => whnf) | (refine lk_E38 ?_; conv => whnf))
    left
    conv => whnf
    first | refine ⟨rfl, _, rfl, [_, _], rfl, ?_, rfl⟩ | refine ⟨_, rfl, [_, _], rfl, ?_, rfl⟩
    ((repeat' (first | exact trivial | apply And.intro)) <;> first | exact .inl rfl | exact .inr ⟨rfl, rfl⟩)
  have h' : frK r w (decide (b ≥ 0)) = 0 := by simpa using h
  obtain ⟨h1, hn⟩ := frK_zero h'
  obtain ⟨hO, hb0⟩ := rnK_zero h1
  have hb0 : 0 ≤ b := by simpa using hb0
  have hw1 : W1 w := okN_w hO
  have hb := okR_bounds (okN_R hO)
  have hN : rpN r ≤ 1024 := (Nat.pow_le_pow_right (by omega) hn : (2 : Nat) ^ (wrP r).length ≤ 2 ^ 10)
  have hlen := rpA_len r
  have hpos := rpN_pos r
  have hmem : ∀ l ∈ rpA r, l.length ≤ 1048576 ∧ AllIn l := fun l hl => by
    have := rpA_mem hl
    exact ⟨by omega, rp_in hb this.2⟩
  rw [show frY r w b = frX r w b by unfold frY; rw [if_pos h'], h']
  conv => whnf
  repeat (first | (refine go_E38 ?_; conv => whnf) | (refine lk_E38 ?_; conv => whnf))
  first | refine ⟨_, _, rfl, sc_E38 (repairsR_sat r hr hb hn), ?_⟩ | refine .inl ⟨_, _, rfl, sc_E38 (repairsR_sat r hr hb hn), ?_⟩
  conv => whnf
  repeat (first | (refine go_E38 ?_; conv => whnf) | (refine lk_E38 ?_; conv => whnf))
  have hmA := frA_mem (r := r) hb hw1 hb0
  have hpA : 0 < (frA r w b).length := List.length_pos_of_mem hmA
  have hle : (frA r w b).length ≤ (rpA r).length := List.length_filter_le _ _
  have hsub : ∀ l ∈ frA r w b, l.length ≤ 1048576 := fun l hl => (hmem l (List.mem_filter.1 hl).1).1
  refine ⟨[(19, 0, 0), (3, 0, 0), (4, 0, 0), (5, 0, 0)], _, _, _, _, _, _, _, _, rfl, rfl, rfl, mapO_four (lendLL rfl) rfl rfl rfl, deleteFunc3_satL (g := 56) (keep := frS r w b) (rpA r) ⟨by omega, by omega⟩ (fun l hl => fewest1_del_sat r hr hb w hw1 b l (hmem l hl).1 (hmem l hl).2), rfl, mapO_four backKP rfl rfl rfl, rfl, rfl, ?_⟩
  conv => whnf
  repeat (first | (refine go_E38 ?_; conv => whnf) | (refine lk_E38 ?_; conv => whnf))
  refine ⟨[(19, 0, 0)], _, _, _, _, _, _, _, _, rfl, rfl, rfl, mapO_single (lendKP rfl), minFunc0_satL (g := 58) (keep := frS r w b) (c := cmF) (rpA r) (frA r w b) _ rfl ⟨hpA, by omega⟩ (fun x hx y hy => fewest2_sat x y (hsub x hx) (hsub y hy)), rfl, mapO_single backKP, rfl, rfl, ?_⟩
  conv => whnf
  repeat (first | (refine go_E38 ?_; conv => whnf) | (refine lk_E38 ?_; conv => whnf))
  right
  refine ⟨_, thaw_sim (i := 6) rfl rfl rfl, ?_⟩
  conv => whnf
  first | refine ⟨rfl, _, rfl, [_, _], rfl, ?_, rfl⟩ | refine ⟨_, rfl, [_, _], rfl, ?_, rfl⟩
  ((repeat' (first | exact trivial | apply And.intro)) <;> first | exact .inl rfl | exact .inr ⟨rfl, rfl⟩)
set_option maxRecDepth 8000 in
theorem specFewestR_sat (r : Roof) (hr : r.In) (w : Nat → Int) (hw : RaiIn w) (b : Int) : Sat Try.prog 22 [roofD r, raiD w, .v (.int .i64 b)] (frV r w b) := by
  unfold frV
  refine satS_of_wp hMix tOk Try.func22 rfl rfl Try.ntmps22 rfl rfl Try.results22 (by kernel_rfl) ?_
  conv => whnf
  repeat (first | (refine go_E38 ?_; conv => whnf) | (refine lk_E38 ?_; conv => whnf))
  first | refine ⟨_, _, rfl, sc_E38 (l03Places0_sat r hr w hw _ false), ?_⟩ | refine .inl ⟨_, _, rfl, sc_E38 (l03Places0_sat r hr w hw _ false), ?_⟩
  conv => whnf
  repeat (first | (refine go_E38 ?_; conv => whnf) | (refine lk_E38 ?_; conv => whnf))
  cases h0 : (rnK r w (decide (b ≥ 0)) == 0)
  · have h0' : ¬ rnK r w (decide (b ≥ 0)) = 0 := by simpa using h0
    have hk : frK r w (decide (b ≥ 0)) = rnK r w (decide (b ≥ 0)) := by unfold frK; rw [if_neg (by rintro ⟨h, _⟩; exact h0' h)]
    rw [show frY r w b = [] by unfold frY; rw [if_neg (by rw [hk]; exact h0')], hk]
    conv => whnf
    repeat (first | (refine go_E38 ?_; conv => whnf) | (refine lk_E38 ?_; conv => whnf))
    rw [show (rnK r w (decide (b ≥ 0)) != 0) = true by simpa using h0']
    conv => whnf
    repeat (first | (refine go_E38 ?_; conv => whnf) | (refine lk_E38 ?_; conv => whnf))
    left
    conv => whnf
    first | refine ⟨rfl, _, rfl, [_, _], rfl, ?_, rfl⟩ | refine ⟨_, rfl, [_, _], rfl, ?_, rfl⟩
    ((repeat' (first | exact trivial | apply And.intro)) <;> first | exact .inl rfl | exact .inr ⟨rfl, rfl⟩)
  have h1 : rnK r w (decide (b ≥ 0)) = 0 := by simpa using h0
  obtain ⟨hO, hb0⟩ := rnK_zero h1
  have hb0 : 0 ≤ b := by simpa using hb0
  have hw1 : W1 w := okN_w hO
  have hb := okR_bounds (okN_R hO)
  conv => whnf
  repeat (first | (refine go_E38 ?_; conv => whnf) | (refine lk_E38 ?_; conv => whnf))
  first | refine ⟨_, _, rfl, sc_E38 (l03Wrong_sat r hr hb), ?_⟩ | refine .inl ⟨_, _, rfl, sc_E38 (l03Wrong_sat r hr hb), ?_⟩
  conv => whnf
  repeat (first | (refine go_E38 ?_; conv => whnf) | (refine lk_E38 ?_; conv => whnf))
  cases h2 : decide (((wrP r).length : Int) > 10)
  case true =>
    have hk : frK r w (decide (b ≥ 0)) = 3 := by unfold frK; rw [if_pos ⟨h1, by simp at h2; omega⟩]
    rw [show frY r w b = [] by unfold frY; rw [if_neg (by rw [hk]; omega)], hk]
    conv => whnf
    repeat (first | (refine go_E38 ?_; conv => whnf) | (refine lk_E38 ?_; conv => whnf))
    left
    conv => whnf
    first | refine ⟨rfl, _, rfl, [_, _], rfl, ?_, rfl⟩ | refine ⟨_, rfl, [_, _], rfl, ?_, rfl⟩
    ((repeat' (first | exact trivial | apply And.intro)) <;> first | exact .inl rfl | exact .inr ⟨rfl, rfl⟩)
  have hn : (wrP r).length ≤ 10 := by simp at h2; omega
  have hk : frK r w (decide (b ≥ 0)) = 0 := by unfold frK; rw [if_neg (by omega)]; exact h1
  rw [show frY r w b = frX r w b by unfold frY; rw [if_pos hk], hk, h1, ← frX_spec hb hw1 hb0]
  have hN : rpN r ≤ 1024 := (Nat.pow_le_pow_right (by omega) hn : (2 : Nat) ^ (wrP r).length ≤ 2 ^ 10)
  have hL : ∀ k, (rpL r k).length ≤ 10 ∧ AllIn (rpL r k) := fun k => ⟨Nat.le_trans (chP_len _ _ _) hn, rp_in hb (chP_sub (Nat.le_refl _))⟩
  conv => whnf
  repeat (first | (refine go_E38 ?_; conv => whnf) | (refine lk_E38 ?_; conv => whnf))
  refine loop_ruleS (α := Nat) (fun k => [(2, .v (.int .i64 b)), (3, .ptr (3, 0, 0) 0), (4, .ptr (4, 0, 0) 0), (9, placesD true (wrP r)), (10, placesD true (selX cmF (fun k => frS r w b (rpL r k)) (rpL r) (wrP r) k)), (11, .v (.int .i64 k))]) (fun k => [((3, 0, 0), roofD r), ((4, 0, 0), raiD w)]) (fun k => k ≤ rpN r) (fun k => rpN r - k) (0) ?_ (Sim.trans (frz_sim (id := (20, 0, 0)) (xs := placesC (wrP r)) rfl rfl rfl) (sim_ofS rfl (rn := [((3, 0, 0), (3, 0, 0)), ((4, 0, 0), (4, 0, 0))]) rfl ?_ ?_)) ?_
  · exact okt_E38
  · exact hold_E38
  · ((repeat' (first | exact trivial | apply And.intro)) <;> ((first | refine ⟨_, _, rfl, rfl, ?_⟩ ); rfl))
  intro k hk
  have hbm : (selX cmF (fun k => frS r w b (rpL r k)) (rpL r) (wrP r) k).length ≤ 10 ∧ AllIn (selX cmF (fun k => frS r w b (rpL r k)) (rpL r) (wrP r) k) := by
    rcases selX_mem (c := cmF) (sel := fun k => frS r w b (rpL r k)) (L := rpL r) (m := wrP r) (k := k) with h | ⟨j, _, h⟩
    · rw [h]; exact ⟨hn, wrP_in hb⟩
    · rw [h]; exact hL j
  have hstep : selX cmF (fun k => frS r w b (rpL r k)) (rpL r) (wrP r) (k + 1) = if cmF (rpL r k) (selX cmF (fun k => frS r w b (rpL r k)) (rpL r) (wrP r) k) < 0 ∧ frS r w b (rpL r k) = true then rpL r k else selX cmF (fun k => frS r w b (rpL r k)) (rpL r) (wrP r) k := rfl
  generalize hB : selX cmF (fun k => frS r w b (rpL r k)) (rpL r) (wrP r) k = B at *
  have hc := cmF_lt (rpL r k) B
  conv => whnf
  repeat (first | (refine go_E38 ?_; conv => whnf) | (refine lk_E38 ?_; conv => whnf))
  rw [shl64 hn, show ((2 ^ (wrP r).length : Nat) : Int) = ((rpN r : Nat) : Int) from rfl]
  cases h3 : decide ((k : Int) < ((rpN r : Nat) : Int))
  · have hkn : k = rpN r := by simp at h3; omega
    subst hkn
    rw [hB]
    conv => whnf
    repeat (first | (refine go_E38 ?_; conv => whnf) | (refine lk_E38 ?_; conv => whnf))
    right
    refine ⟨_, thaw_sim (i := 6) rfl rfl rfl, ?_⟩
    conv => whnf
    first | refine ⟨rfl, _, rfl, [_, _], rfl, ?_, rfl⟩ | refine ⟨_, rfl, [_, _], rfl, ?_, rfl⟩
    ((repeat' (first | exact trivial | apply And.intro)) <;> first | exact .inl rfl | exact .inr ⟨rfl, rfl⟩)
  have hkn : k < rpN r := by simpa using h3
  have hLk := hL k
  conv => whnf
  repeat (first | (refine go_E38 ?_; conv => whnf) | (refine lk_E38 ?_; conv => whnf))
  first | refine ⟨_, _, rfl, sc_E38 (l03Chosen_sat (wrP r) (by omega) k (by omega) false), ?_⟩ | refine .inl ⟨_, _, rfl, sc_E38 (l03Chosen_sat (wrP r) (by omega) k (by omega) false), ?_⟩
  conv => whnf
  repeat (first | (refine go_E38 ?_; conv => whnf) | (refine lk_E38 ?_; conv => whnf))
  rw [show chP (wrP r) k (wrP r).length = rpL r k from rfl]
  generalize hLe : rpL r k = L at *
  have hfr : frS r w b L = decide (afI r w L ≤ b) := rfl
  rw [hfr] at hstep
  have no : ¬ (cmF L B < 0 ∧ decide (afI r w L ≤ b) = true) → selX cmF (fun k => frS r w b (rpL r k)) (rpL r) (wrP r) (k + 1) = B := fun h => by rw [hstep, if_neg h]
  have yes : cmF L B < 0 → decide (afI r w L ≤ b) = true → selX cmF (fun k => frS r w b (rpL r k)) (rpL r) (wrP r) (k + 1) = L := fun h h' => by rw [hstep, if_pos ⟨h, h'⟩]
  cases h4 : decide ((L.length : Int) < (B.length : Int))
  · have h4' : ¬ (L.length : Int) < (B.length : Int) := by simpa using h4
    conv => whnf
    repeat (first | (refine go_E38 ?_; conv => whnf) | (refine lk_E38 ?_; conv => whnf))
    cases h5 : ((L.length : Int) == (B.length : Int))
    · have h5' : ¬ (L.length : Int) = (B.length : Int) := by simpa using h5
      have e := no (by rintro ⟨h, _⟩; rw [hc] at h; omega)
      conv => whnf
      repeat (first | (refine go_E38 ?_; conv => whnf) | (refine lk_E38 ?_; conv => whnf))
      refine ⟨k + 1, ?_, ?_, sim_ofS rfl (rn := [((3, 0, 0), (3, 0, 0)), ((4, 0, 0), (4, 0, 0))]) rfl ?_ ?_⟩
      · (dsimp only; omega)
      · exact okt_E38
      · ((repeat' (first | exact trivial | apply And.intro)) <;> (first | rfl | (exact congrArg (fun l => some (placesD true l)) e) | exact leaf_E38))
      · ((repeat' (first | exact trivial | apply And.intro)) <;> ((first | refine ⟨_, _, rfl, rfl, ?_⟩ ); rfl))
    have h5' : (L.length : Int) = (B.length : Int) := by simpa using h5
    conv => whnf
    repeat (first | (refine go_E38 ?_; conv => whnf) | (refine lk_E38 ?_; conv => whnf))
    first | refine ⟨_, _, rfl, sc_E38 (l03Less_sat L B (by omega) (by omega) hLk.2 hbm.2 false false), ?_⟩ | refine .inl ⟨_, _, rfl, sc_E38 (l03Less_sat L B (by omega) (by omega) hLk.2 hbm.2 false false), ?_⟩
    conv => whnf
    repeat (first | (refine go_E38 ?_; conv => whnf) | (refine lk_E38 ?_; conv => whnf))
    cases h6 : decide (cmL L B < 0)
    · have h6' : ¬ cmL L B < 0 := by simpa using h6
      have e := no (by rintro ⟨h, _⟩; rw [hc] at h; omega)
      conv => whnf
      repeat (first | (refine go_E38 ?_; conv => whnf) | (refine lk_E38 ?_; conv => whnf))
      refine ⟨k + 1, ?_, ?_, sim_ofS rfl (rn := [((3, 0, 0), (3, 0, 0)), ((4, 0, 0), (4, 0, 0))]) rfl ?_ ?_⟩
      · (dsimp only; omega)
      · exact okt_E38
      · ((repeat' (first | exact trivial | apply And.intro)) <;> (first | rfl | (exact congrArg (fun l => some (placesD true l)) e) | exact leaf_E38))
      · ((repeat' (first | exact trivial | apply And.intro)) <;> ((first | refine ⟨_, _, rfl, rfl, ?_⟩ ); rfl))
    have h6' : cmL L B < 0 := by simpa using h6
    conv => whnf
    repeat (first | (refine go_E38 ?_; conv => whnf) | (refine lk_E38 ?_; conv => whnf))
    first | refine ⟨_, _, rfl, sc_E38 (l03After_sat r hr hb w hw1 L (by omega) hLk.2 false), ?_⟩ | refine .inl ⟨_, _, rfl, sc_E38 (l03After_sat r hr hb w hw1 L (by omega) hLk.2 false), ?_⟩
    conv => whnf
    repeat (first | (refine go_E38 ?_; conv => whnf) | (refine lk_E38 ?_; conv => whnf))
    cases h7 : decide (afI r w L ≤ b)
    · have e := no (by rintro ⟨_, h⟩; rw [h7] at h; cases h)
      conv => whnf
      repeat (first | (refine go_E38 ?_; conv => whnf) | (refine lk_E38 ?_; conv => whnf))
      refine ⟨k + 1, ?_, ?_, sim_ofS rfl (rn := [((3, 0, 0), (3, 0, 0)), ((4, 0, 0), (4, 0, 0))]) rfl ?_ ?_⟩
      · (dsimp only; omega)
      · exact okt_E38
      · ((repeat' (first | exact trivial | apply And.intro)) <;> (first | rfl | (exact congrArg (fun l => some (placesD true l)) e) | exact leaf_E38))
      · ((repeat' (first | exact trivial | apply And.intro)) <;> ((first | refine ⟨_, _, rfl, rfl, ?_⟩ ); rfl))
    · have e := yes (by rw [hc]; omega) h7
      conv => whnf
      repeat (first | (refine go_E38 ?_; conv => whnf) | (refine lk_E38 ?_; conv => whnf))
      refine ⟨k + 1, ?_, ?_, Sim.trans (frz_sim (id := (39, 1, 0)) (xs := placesC L) rfl rfl rfl) (sim_ofS rfl (rn := [((3, 0, 0), (3, 0, 0)), ((4, 0, 0), (4, 0, 0))]) rfl ?_ ?_)⟩
      · (dsimp only; omega)
      · exact okt_E38
      · ((repeat' (first | exact trivial | apply And.intro)) <;> (first | rfl | (exact congrArg (fun l => some (placesD true l)) e) | exact leaf_E38))
      · ((repeat' (first | exact trivial | apply And.intro)) <;> ((first | refine ⟨_, _, rfl, rfl, ?_⟩ ); rfl))
  · have h4' : (L.length : Int) < (B.length : Int) := by simpa using h4
    conv => whnf
    repeat (first | (refine go_E38 ?_; conv => whnf) | (refine lk_E38 ?_; conv => whnf))
    first | refine ⟨_, _, rfl, sc_E38 (l03After_sat r hr hb w hw1 L (by omega) hLk.2 false), ?_⟩ | refine .inl ⟨_, _, rfl, sc_E38 (l03After_sat r hr hb w hw1 L (by omega) hLk.2 false), ?_⟩
    conv => whnf
    repeat (first | (refine go_E38 ?_; conv => whnf) | (refine lk_E38 ?_; conv => whnf))
    cases h7 : decide (afI r w L ≤ b)
    · have e := no (by rintro ⟨_, h⟩; rw [h7] at h; cases h)
      conv => whnf
      repeat (first | (refine go_E38 ?_; conv => whnf) | (refine lk_E38 ?_; conv => whnf))
      refine ⟨k + 1, ?_, ?_, sim_ofS rfl (rn := [((3, 0, 0), (3, 0, 0)), ((4, 0, 0), (4, 0, 0))]) rfl ?_ ?_⟩
      · (dsimp only; omega)
      · exact okt_E38
      · ((repeat' (first | exact trivial | apply And.intro)) <;> (first | rfl | (exact congrArg (fun l => some (placesD true l)) e) | exact leaf_E38))
      · ((repeat' (first | exact trivial | apply And.intro)) <;> ((first | refine ⟨_, _, rfl, rfl, ?_⟩ ); rfl))
    · have e := yes (by rw [hc]; omega) h7
      conv => whnf
      repeat (first | (refine go_E38 ?_; conv => whnf) | (refine lk_E38 ?_; conv => whnf))
      refine ⟨k + 1, ?_, ?_, Sim.trans (frz_sim (id := (39, 1, 0)) (xs := placesC L) rfl rfl rfl) (sim_ofS rfl (rn := [((3, 0, 0), (3, 0, 0)), ((4, 0, 0), (4, 0, 0))]) rfl ?_ ?_)⟩
      · (dsimp only; omega)
      · exact okt_E38
      · ((repeat' (first | exact trivial | apply And.intro)) <;> (first | rfl | (exact congrArg (fun l => some (placesD true l)) e) | exact leaf_E38))
      · ((repeat' (first | exact trivial | apply And.intro)) <;> ((first | refine ⟨_, _, rfl, rfl, ?_⟩ ); rfl))
end Go.Proofs.Ytcjaihndhplclaa
/- The law of the fewest repairs; contracts of the repairs with the least drips, both sides, and the law. -/
set_option linter.unusedVariables false
set_option linter.unusedSimpArgs false
namespace Go.V
/- Words for the walks of this text: their default arguments are tried where they are used. -/
theorem go_E39 {P Q : Prop} (k : Q) (h : P := by first | exact Nat.le_of_ble_eq_true rfl | exact rfl | decide | omega | (simp [splice]; done) | (constructor <;> omega) | (simp [splice]; omega)) : P ∧ Q := ⟨h, k⟩
theorem lk_E39 {α : Type} {o : Option α} {K : α → Prop} {x : α} (k : K x) (h : o = some x := by first | exact raiA (by omega) | exact raiA' (by omega) | exact roofN (by omega) (by omega) | exact gridN (by omega) (by omega) | exact intA (by omega) | exact intA' (by omega) | exact placeA (by omega) | exact placeB (by omega) | exact placeA' (by omega) | exact placeB' (by omega)) : optK o K := optK_of h k
theorem sc_E39 {P : Program} {g : FuncId} {args args' : List D} {res : D} (h : Sat P g args res) (e : args' = args := by repeat (first | rfl | exact vfull (by first | (simp [splice]; done) | (simp [splice]; omega)) | exact rfull (by first | (simp [splice]; done) | (simp [splice]; omega)) | exact vplace (by simp; done) (by omega) | exact vrow (by simp; done) (by omega) | exact vtiles (by simp) | exact vsplice (by simp) (by simp) | refine ceq ?_ ?_ | refine Eq.trans (vsplice (by first | (simp; done) | (simp; omega)) (by first | (simp; done) | (simp; omega))) ?_)) : Sat P g args' res := Sat.of_eq h e
theorem sm_E39 {low : Bool} {P : Program} {g : FuncId} {args args' ms ms0 : List D} {res : D} {ms' : List (Option D)} {news : List D} (h : SatB low P g args ms res ms' news) (e : args' = args := by repeat (first | rfl | exact vfull (by first | (simp [splice]; done) | (simp [splice]; omega)) | exact rfull (by first | (simp [splice]; done) | (simp [splice]; omega)) | exact vplace (by simp; done) (by omega) | exact vrow (by simp; done) (by omega) | exact vtiles (by simp) | exact vsplice (by simp) (by simp) | refine ceq ?_ ?_ | refine Eq.trans (vsplice (by first | (simp; done) | (simp; omega)) (by first | (simp; done) | (simp; omega))) ?_)) (e2 : ms0 = ms := by repeat (first | rfl | exact vfull (by first | (simp [splice]; done) | (simp [splice]; omega)) | exact rfull (by first | (simp [splice]; done) | (simp [splice]; omega)) | exact vplace (by simp; done) (by omega) | exact vrow (by simp; done) (by omega) | exact vtiles (by simp) | exact vsplice (by simp) (by simp) | refine ceq ?_ ?_ | refine Eq.trans (vsplice (by first | (simp; done) | (simp; omega)) (by first | (simp; done) | (simp; omega))) ?_)) : SatB low P g args' ms0 res ms' news := SatB.of_eq h e e2
end Go.V
namespace Go.V
end Go.V
namespace Go.Proofs.Ytcjaihndhplclaa
open Go.V
theorem frY_len (r : Roof) (w : Nat → Int) (b : Int) : (frY r w b).length ≤ 10 := by
  unfold frY
  split
  · rename_i h
    obtain ⟨h1, h2⟩ := frK_zero h
    obtain ⟨h3, h4⟩ := rnK_zero h1
    have := frX_mem (r := r) (w := w) (okR_bounds (okN_R h3)) (okN_w h3) (b := b) (by simpa using h4)
    have := (rpA_mem (List.mem_filter.1 this).1).1
    omega
  · simp
theorem fnExactFewestRepairs_sat (r : Roof) (hr : r.In) (w : Nat → Int) (hw : RaiIn w) (b : Int) (hb : I64 b) : Sat Try.prog 4 [roofD r, raiD w, .v (.int .i64 b)] (.v (.bool true)) := by
  have s1 := specFewestR_sat r hr w hw b
  have s2 := fewestRepairs_sat r hr w hw b
  unfold frV at s1 s2
  have hl := frY_len r w b
  generalize frY r w b = ps at s1 s2 hl
  generalize frK r w (decide (b ≥ 0)) = x at s1 s2
  refine sat_of_wp hMix tOk Try.func4 rfl rfl Try.ntmps4 rfl rfl Try.results4 (by kernel_rfl) ?_
  conv => whnf
  repeat (first | (refine go_E39 ?_; conv => whnf) | (refine lk_E39 ?_; conv => whnf))
  first | refine ⟨_, _, rfl, sc_E39 (toRoof_sat r), ?_⟩ | refine .inl ⟨_, _, rfl, sc_E39 (toRoof_sat r), ?_⟩
  conv => whnf
  repeat (first | (refine go_E39 ?_; conv => whnf) | (refine lk_E39 ?_; conv => whnf))
  first | refine ⟨_, _, rfl, sc_E39 (toRain_sat w), ?_⟩ | refine .inl ⟨_, _, rfl, sc_E39 (toRain_sat w), ?_⟩
  conv => whnf
  repeat (first | (refine go_E39 ?_; conv => whnf) | (refine lk_E39 ?_; conv => whnf))
  first | refine ⟨_, _, rfl, sc_E39 (s1), ?_⟩ | refine .inl ⟨_, _, rfl, sc_E39 (s1), ?_⟩
  conv => whnf
  repeat (first | (refine go_E39 ?_; conv => whnf) | (refine lk_E39 ?_; conv => whnf))
  first | refine ⟨_, _, rfl, sc_E39 (toRoof_sat r), ?_⟩ | refine .inl ⟨_, _, rfl, sc_E39 (toRoof_sat r), ?_⟩
  conv => whnf
  repeat (first | (refine go_E39 ?_; conv => whnf) | (refine lk_E39 ?_; conv => whnf))
  first | refine ⟨_, _, rfl, sc_E39 (toRain_sat w), ?_⟩ | refine .inl ⟨_, _, rfl, sc_E39 (toRain_sat w), ?_⟩
  conv => whnf
  repeat (first | (refine go_E39 ?_; conv => whnf) | (refine lk_E39 ?_; conv => whnf))
  first | refine ⟨_, _, rfl, sc_E39 (s2), ?_⟩ | refine .inl ⟨_, _, rfl, sc_E39 (s2), ?_⟩
  conv => whnf
  repeat (first | (refine go_E39 ?_; conv => whnf) | (refine lk_E39 ?_; conv => whnf))
  first | refine ⟨_, _, rfl, sc_E39 (eqPlaceS_same ps (by omega) false false), ?_⟩ | refine .inl ⟨_, _, rfl, sc_E39 (eqPlaceS_same ps (by omega) false false), ?_⟩
  conv => whnf
  repeat (first | (refine go_E39 ?_; conv => whnf) | (refine lk_E39 ?_; conv => whnf))
  rw [show (x != x) = false by simp]
  conv => whnf
  repeat (first | (refine go_E39 ?_; conv => whnf) | (refine lk_E39 ?_; conv => whnf))
  first | refine ⟨[(30, 0, 0)], _, _, _, _, _, _, _, _, rfl, rfl, rfl, rfl, (sm_E39 (markPlaceS_satM (placesC ps) ps.length (by simp) (by omega) 1 (by omega))), rfl, rfl, rfl, rfl, ?_⟩ | refine .inr ⟨[(30, 0, 0)], _, _, _, _, _, _, _, _, rfl, rfl, rfl, rfl, (sm_E39 (markPlaceS_satM (placesC ps) ps.length (by simp) (by omega) 1 (by omega))), rfl, rfl, rfl, rfl, ?_⟩ | refine ⟨[(30, 0, 0)], _, _, _, _, _, rfl, rfl, rfl, rfl, (sm_E39 (markPlaceS_satM (placesC ps) ps.length (by simp) (by omega) 1 (by omega))), rfl, rfl, ?_⟩
  conv => whnf
  repeat (first | (refine go_E39 ?_; conv => whnf) | (refine lk_E39 ?_; conv => whnf))
  first | refine ⟨_, _, rfl, sc_E39 (heldPlaceS_sat ps.length (by omega) 1 (by omega) false), ?_⟩ | refine .inl ⟨_, _, rfl, sc_E39 (heldPlaceS_sat ps.length (by omega) 1 (by omega) false), ?_⟩
  conv => whnf
  repeat (first | (refine go_E39 ?_; conv => whnf) | (refine lk_E39 ?_; conv => whnf))
  rw [show (1 + 2 * (ps.length : Int) != 1 + 2 * (ps.length : Int)) = false by simp]
  conv => whnf
  repeat (first | (refine go_E39 ?_; conv => whnf) | (refine lk_E39 ?_; conv => whnf))
  first | refine ⟨_, _, rfl, sc_E39 (toRoof_sat r), ?_⟩ | refine .inl ⟨_, _, rfl, sc_E39 (toRoof_sat r), ?_⟩
  conv => whnf
  repeat (first | (refine go_E39 ?_; conv => whnf) | (refine lk_E39 ?_; conv => whnf))
  first | refine ⟨_, _, rfl, sc_E39 (toRain_sat w), ?_⟩ | refine .inl ⟨_, _, rfl, sc_E39 (toRain_sat w), ?_⟩
  conv => whnf
  repeat (first | (refine go_E39 ?_; conv => whnf) | (refine lk_E39 ?_; conv => whnf))
  first | refine ⟨_, _, rfl, sc_E39 (s2), ?_⟩ | refine .inl ⟨_, _, rfl, sc_E39 (s2), ?_⟩
  conv => whnf
  repeat (first | (refine go_E39 ?_; conv => whnf) | (refine lk_E39 ?_; conv => whnf))
  first | refine ⟨_, _, rfl, sc_E39 (eqPlaceS_same ps (by omega) false false), ?_⟩ | refine .inl ⟨_, _, rfl, sc_E39 (eqPlaceS_same ps (by omega) false false), ?_⟩
  conv => whnf
  repeat (first | (refine go_E39 ?_; conv => whnf) | (refine lk_E39 ?_; conv => whnf))
  rw [show (x != x) = false by simp]
  conv => whnf
  repeat (first | (refine go_E39 ?_; conv => whnf) | (refine lk_E39 ?_; conv => whnf))
  first | refine ⟨_, _, rfl, sc_E39 (heldPlaceS_sat ps.length (by omega) 1 (by omega) false), ?_⟩ | refine .inl ⟨_, _, rfl, sc_E39 (heldPlaceS_sat ps.length (by omega) 1 (by omega) false), ?_⟩
  conv => whnf
  repeat (first | (refine go_E39 ?_; conv => whnf) | (refine lk_E39 ?_; conv => whnf))
  rw [show (1 + 2 * (ps.length : Int) != 1 + 2 * (ps.length : Int)) = false by simp]
  conv => whnf
  repeat (first | (refine go_E39 ?_; conv => whnf) | (refine lk_E39 ?_; conv => whnf))
  first | refine ⟨rfl, _, rfl, ?_⟩ | refine ⟨_, rfl, ?_⟩
  rfl
end Go.Proofs.Ytcjaihndhplclaa
