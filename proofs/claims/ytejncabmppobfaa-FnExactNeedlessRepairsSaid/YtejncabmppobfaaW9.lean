import Derived.Test.YtejncabmppobfaaW8
/- A block of the call's own that is not written to any more, told as a row; a row of the call's own that is handed back. -/
set_option linter.unusedVariables false
set_option linter.unusedSimpArgs false
set_option linter.unusedSectionVars false
namespace Go.V
variable [Globs]

/-- A value in which a slice that holds the whole of a block is told as a row; what leads to blocks that are not known is forgotten. -/
def frzD (id : Id) (xs : List Value) (live : Id → Bool) : Nat → D → D
  | 0, _ => .junk
  | n + 1, d =>
    match d with
    | .junk => .junk
    | .mr j => bif idEq id j then .junk else (bif live j then .mr j else .junk)
    | .obj x => .obj x
    | .v x => .v x
    | .ptr j off => bif idEq id j then .junk else (bif live j then .ptr j off else .junk)
    | .slc full sz j off len => bif idEq id j then (bif full then .row true sz (.v (.agg ⟨xs⟩)) len else .junk) else (bif live j then .slc full sz j off len else .junk)
    | .ref m c off => .ref m (frzD id xs live n c) off
    | .row m sz c len => .row m sz (frzD id xs live n c) len
    | .agg ds => .agg (ds.map (frzD id xs live n))
    | .tup ds => .tup (ds.map (frzD id xs live n))
    | .fn f a b => .fn f (a.map (frzD id xs live n)) (b.map (frzD id xs live n))
def St.frz (s : St) (id : Id) (xs : List Value) : St :=
  { s with t := fun i => frzD id xs (fun j => (s.m j).isSome) depth (s.t i), m := fun j => bif idEq id j then none else (match s.m j with | some (.obj (.mit ..)) => none | some c => some (frzD id xs (fun j => (s.m j).isSome) depth c) | none => none) }

theorem map_rep {w : World} {base B : Nat} {loc loc' : Loc} {f : D → D} (hf : ∀ d y, Rep w base loc d y → Rep w B loc' (f d) y) : ∀ {ds : List D} {vs : List Value}, RepL w base loc ds vs → RepL w B loc' (ds.map f) vs
  | [], vs, h => by simpa only [List.map_nil, RepL] using h
  | d :: ds, vs, h => by
    simp only [RepL] at h
    obtain ⟨y, ys, rfl, h1, h2⟩ := h
    simp only [List.map_cons, RepL]
    exact ⟨y, ys, rfl, hf _ _ h1, map_rep hf h2⟩

theorem frz_sim {s : St} {id : Id} {xs : List Value} (hs : s.c lentKey = 7) (hlt : Nat.blt id.1 lentKey = true) (hm : s.m id = some (.v (.agg ⟨xs⟩))) : Sim s (s.frz id xs) := by
  intro P T n w0 bs l0 a w loc h
  obtain ⟨rfl, rfl⟩ := h.solo hs
  have hlt : id.1 < lentKey := by rw [blt_eq] at hlt; simpa using hlt
  let loc' : Loc := fun j => if j.1 < lentKey ∧ (j = id ∨ s.m j = none) then none else loc j
  have hsub : ∀ j l, loc' j = some l → loc j = some l := by
    intro j l hj
    simp only [loc'] at hj
    split at hj
    · cases hj
    · exact hj
  have hkeep : ∀ j l, idEq id j = false → (s.m j).isSome = true → loc j = some l → loc' j = some l := by
    intro j l h1 h2 h3
    simp only [loc']
    rw [if_neg]
    · exact h3
    · rintro ⟨_, rfl | h4⟩
      · rw [idEq_iff.2 rfl] at h1; cases h1
      · rw [h4] at h2; cases h2
  have hav : ∀ b, loc.avoids b → loc'.avoids b := fun b hv j k hj => hv _ _ (hsub _ _ hj)
  obtain ⟨l, ys, g1, g23⟩ := h.mem id _ hm
  obtain ⟨g2, g3⟩ := g23.cells (by simp)
  simp only [Rep, Value.agg.injEq, Array.mk.injEq] at g2
  obtain ⟨rfl, hflat⟩ := g2
  have hout : ∀ b, l = some b → loc'.avoids b := by
    rintro b rfl j k hj
    have hj0 := hsub _ _ hj
    simp only [loc'] at hj
    split at hj
    · cases hj
    · rename_i hno
      have hlow : j.1 < lentKey := by
        rcases Nat.lt_or_ge j.1 lentKey with q | q
        · exact q
        · have := h.lent j q
          rw [hj0] at this
          simp [noLoc] at this
      cases hc : s.m j with
      | none => exact hno ⟨hlow, .inr hc⟩
      | some c =>
        have := h.inj _ _ _ _ _ _ _ hc hm hj0 g1
        exact hno ⟨hlow, .inl this⟩
  have hfr : ∀ (n : Nat) (d : D) (y : Value), Rep w w0.heap.size loc d y → Rep w w0.heap.size loc' (frzD id ys (fun j => (s.m j).isSome) n d) y := by
    intro n
    induction n with
    | zero => intro d y _; simp [frzD, Rep]
    | succ n ih =>
      intro d y hr
      cases d with
      | junk => simp [frzD, Rep]
      | obj x => simp [Rep] at hr
      | mr j =>
        simp only [frzD]
        cases h1 : idEq id j <;> simp only [h1, cond_true, cond_false]
        · cases h2 : (s.m j).isSome <;> simp only [h2, cond_true, cond_false]
          · simp [Rep]
          · simp only [Rep] at hr ⊢
            obtain ⟨b, k, q1, q2⟩ := hr
            exact ⟨b, k, hkeep _ _ h1 h2 q1, q2⟩
        · simp [Rep]
      | v x => simpa only [frzD, Rep] using hr
      | ptr j off =>
        simp only [frzD]
        cases h1 : idEq id j <;> simp only [h1, cond_true, cond_false]
        · cases h2 : (s.m j).isSome <;> simp only [h2, cond_true, cond_false]
          · simp [Rep]
          · simp only [Rep] at hr ⊢
            obtain ⟨b, k, q1, q2⟩ := hr
            exact ⟨b, k, hkeep _ _ h1 h2 q1, q2⟩
        · simp [Rep]
      | slc full sz j off len =>
        simp only [frzD]
        cases h1 : idEq id j <;> simp only [h1, cond_true, cond_false]
        · cases h2 : (s.m j).isSome <;> simp only [h2, cond_true, cond_false]
          · simp [Rep]
          · simp only [Rep] at hr ⊢
            obtain ⟨aa, cap, l2, k, q1, q2, q3, q4⟩ := hr
            exact ⟨aa, cap, l2, k, q1, q2, hkeep _ _ h1 h2 q3, q4⟩
        · rw [idEq_iff] at h1
          subst h1
          cases full <;> simp only [cond_true, cond_false]
          · simp [Rep]
          · simp only [Rep] at hr ⊢
            obtain ⟨aa, cap, l2, k, q1, q2, q3, q4, q5, q6⟩ := hr
            rw [g1] at q3
            simp only [Option.some.injEq, Prod.mk.injEq] at q3
            obtain ⟨rfl, rfl⟩ := q3
            obtain ⟨q5a, q5b⟩ := q5 trivial
            subst q5a
            refine ⟨aa, cap, ys, q1, q2, ⟨rfl, hflat⟩, q5b.symm, ?_, fun _ => ?_⟩
            · cases l with
              | none => exact .inl (by simp [q6.1])
              | some b =>
                obtain ⟨o, r1, r2, r3⟩ := q6
                obtain ⟨rfl, _⟩ := r3 trivial
                have hge : w0.heap.size ≤ b := by
                  rcases (h.range _ _ _ g1).1 (Nat.lt_trans hlt (by decide)) with q | ⟨_, _, _, _, q⟩
                  · exact q
                  · simp [noLoc] at q
                exact .inr ⟨b, 0, r1, At.of_blk g3, hout b rfl, fun _ => hge⟩
            · cases l with
              | none => exact .inl q6
              | some b =>
                obtain ⟨o, r1, r2, r3⟩ := q6
                obtain ⟨rfl, k0, e0, fr0, r4, r5⟩ := r3 trivial
                obtain ⟨k1, e1, r6, _, _⟩ := g3
                rw [r6] at r4
                simp only [Option.some.injEq, Obj.cells.injEq] at r4
                obtain ⟨rfl, rfl, _⟩ := r4
                have hge : w0.heap.size ≤ b := by
                  rcases (h.range _ _ _ g1).1 (Nat.lt_trans hlt (by decide)) with q | ⟨_, _, _, _, q⟩
                  · exact q
                  · simp [noLoc] at q
                exact .inr ⟨b, _, _, r1, hout b rfl, hge, r6, r5⟩
      | ref m c off =>
        simp only [frzD, Rep] at hr ⊢
        obtain ⟨b, o, zs, q1, q2, q3, q4, q5⟩ := hr
        exact ⟨b, o, zs, q1, q2, hav b q3, q4, ih _ _ q5⟩
      | row m sz c len =>
        simp only [frzD, Rep] at hr ⊢
        obtain ⟨aa, cap, zs, q1, q2, q3, q4, q5, q6⟩ := hr
        refine ⟨aa, cap, zs, q1, q2, ih _ _ q3, q4, ?_, fun hm' => ?_⟩
        · rcases q5 with q5 | ⟨b, o, r1, r2, r3, r4⟩
          · exact .inl q5
          · exact .inr ⟨b, o, r1, r2, hav b r3, r4⟩
        · rcases q6 hm' with q6 | ⟨b, k, e, r1, r2, r3⟩
          · exact .inl q6
          · exact .inr ⟨b, k, e, r1, hav b r2, r3⟩
      | agg ds =>
        simp only [frzD, Rep] at hr ⊢
        obtain ⟨vs, q1, q2, q3⟩ := hr
        exact ⟨vs, q1, map_rep (fun d y => ih d y) q2, q3⟩
      | tup ds =>
        simp only [frzD, Rep] at hr ⊢
        obtain ⟨vs, q1, q2⟩ := hr
        exact ⟨vs, q1, map_rep (fun d y => ih d y) q2⟩
      | fn f x y2 =>
        simp only [frzD, Rep] at hr ⊢
        obtain ⟨va, vb, q1, q2, q3⟩ := hr
        exact ⟨va, vb, q1, map_rep (fun d y => ih d y) q2, map_rep (fun d y => ih d y) q3⟩
  have hmem : ∀ j c, (s.frz id ys).m j = some c → ∃ c0, s.m j = some c0 ∧ c = frzD id ys (fun j => (s.m j).isSome) depth c0 ∧ idEq id j = false ∧ (∀ a b d e, c0 ≠ .obj (.mit a b d e)) := by
    intro j c hc
    simp only [St.frz] at hc
    cases h1 : idEq id j <;> simp only [h1, cond_true, cond_false] at hc
    · cases h2 : s.m j with
      | none => rw [h2] at hc; cases hc
      | some c0 =>
        rw [h2] at hc
        split at hc
        · cases hc
        · rename_i c1 hno e1
          simp only [Option.some.injEq] at hc e1
          subst e1
          exact ⟨c0, rfl, hc.symm, rfl, fun a b d e q => hno a b d e q⟩
        · cases hc
    · cases hc
  refine ⟨loc', h.types, h.low, h.solo, h.size, h.small, h.defers, h.same, fun i => hfr _ _ _ (h.tmp i), fun j c hc => ?_, fun j l2 hj hk => h.cnt j l2 (hsub _ _ hj) hk, fun j b k hj => h.range j b k (hsub _ _ hj), fun j c hc => ?_, fun j hj => ?_, fun j j' c c' b k k' hc hc' hj hj' => ?_, h.glob.loc hav⟩
  · obtain ⟨c0, q1, rfl, q2, q3⟩ := hmem j c hc
    obtain ⟨l2, zs, r1, r23⟩ := h.mem j c0 q1
    refine ⟨l2, zs, hkeep _ _ q2 (by rw [q1]; rfl) r1, ?_⟩
    rcases r23 with ⟨r2, r3⟩ | ⟨x, b, rfl, r2, r3, r4⟩
    · exact .inl ⟨hfr _ _ _ r2, r3⟩
    · refine .inr ⟨x, b, rfl, r2, r3, ?_⟩
      cases x with
      | mit a b d e => exact absurd rfl (q3 a b d e)
      | _ => exact r4
  · obtain ⟨c0, q1, _⟩ := hmem j c hc
    exact h.live _ _ q1
  · simp only [loc']
    rw [if_neg (by omega)]
    exact h.lent j hj
  · obtain ⟨c0, q1, _⟩ := hmem j c hc
    obtain ⟨c0', q1', _⟩ := hmem j' c' hc'
    exact h.inj _ _ _ _ _ _ _ q1 q1' (hsub _ _ hj) (hsub _ _ hj')

/-- What is plain in a slot. -/
def plainD : D → D
  | .v x => .v x
  | _ => .junk
/-- The state at an end, where a slot holds a row of the call's own: the row as a block. -/
def St.thaw (s : St) (i : Nat) (sz : Nat) (xs : List Value) (len : Nat) : St :=
  { t := fun j => bif j == i then .slc true sz (i, s.c i, 0) 0 len else plainD (s.t j), m := fun j => bif idEq (i, s.c i, 0) j then some (.v (.agg ⟨xs⟩)) else none, c := upd s.c i (s.c i + 1) }

theorem thaw_sim {s : St} {i sz len : Nat} {xs : List Value} (hs : s.c lentKey = 7) (hi : Nat.blt i lentKey = true) (ht : s.t i = .row true sz (.v (.agg ⟨xs⟩)) len) : Sim s (s.thaw i sz xs len) := by
  intro P T n w0 bs l0 a w loc h
  obtain ⟨rfl, rfl⟩ := h.solo hs
  have hi : i < lentKey := by rw [blt_eq] at hi; simpa using hi
  have hr := h.tmp i
  rw [ht] at hr
  simp only [Rep, Value.agg.injEq, Array.mk.injEq] at hr
  obtain ⟨aa, cap, ys, q1, q2, ⟨rfl, hflat⟩, q4, q5, q6⟩ := hr
  have q6 := q6 trivial
  have fresh : ∀ l, loc (i, s.c i, 0) ≠ some l := fun l hl => by have := h.cnt _ l hl hi; simp at this
  have hhigh : ∀ j : Id, lentKey ≤ j.1 → loc j = none := fun j hj => h.lent j hj
  -- where the row lies
  obtain ⟨l, hl1, hl2, hl3, hl4⟩ : ∃ l : Option Nat, BlkAt w l ys ∧ (∀ b, l = some b → w0.heap.size ≤ b ∧ b < w.heap.size ∧ loc.avoids b) ∧
      (match l with | none => len = 0 ∧ cap = 0 | some b => ∃ o, aa = some ⟨b, o, none⟩ ∧ (len ≠ 0 → o = 0) ∧ (True → o = 0 ∧ ∃ k e fr, w.heap[b]? = some (.cells k e fr) ∧ cap * sz ≤ k.size)) ∧ len * sz = ys.length := by
    rcases q6 with q6 | ⟨b, k, e, r1, r2, r3, r4, r5⟩
    · refine ⟨none, ?_, (fun b e => by cases e), q6, q4.symm⟩
      have : ys.length = 0 := by rw [q4, q6.1]; simp
      exact List.length_eq_zero_iff.1 this
    · refine ⟨some b, ?_, (fun b' e => by cases e; exact ⟨r3, (Array.getElem?_eq_some_iff.1 r4).1, r2⟩), ⟨0, r1, fun _ => rfl, fun _ => ⟨rfl, k, e, (0, 0), r4, r5⟩⟩, q4.symm⟩
      refine ⟨k, e, r4, ?_, ?_⟩
      · rcases q5 with q5 | ⟨b', o, p1, ⟨k', e', fr', p2, p3, p4⟩, _⟩
        · have : ys = [] := List.length_eq_zero_iff.1 (by rw [q4, q5])
          rw [this]; simp
        · rw [r1] at p1
          simp only [Option.some.injEq, Addr.mk.injEq, and_true] at p1
          obtain ⟨rfl, rfl⟩ := p1
          rw [r4] at p2
          simp only [Option.some.injEq, Obj.cells.injEq] at p2
          obtain ⟨rfl, _, _⟩ := p2
          simpa using p4
      · rw [q4]
        have := Nat.mul_le_mul_right sz q2
        omega
  let loc' : Loc := fun j => if j = (i, s.c i, 0) then some (l, ys.length) else if lentKey ≤ j.1 then loc j else none
  have hcase : ∀ j x, loc' j = some x → j = (i, s.c i, 0) ∧ x = (l, ys.length) := by
    intro j x hj
    simp only [loc'] at hj
    split at hj
    · rename_i e; exact ⟨e, (Option.some.inj hj).symm⟩
    · split at hj
      · rename_i hg; rw [hhigh j hg] at hj; cases hj
      · cases hj
  have hself : loc' (i, s.c i, 0) = some (l, ys.length) := by simp only [loc', if_true]
  have hm : ∀ j c, (s.thaw i sz ys len).m j = some c → j = (i, s.c i, 0) ∧ c = .v (.agg ⟨ys⟩) := by
    intro j c hc
    simp only [St.thaw] at hc
    cases h1 : idEq (i, s.c i, 0) j <;> simp only [h1, cond_true, cond_false] at hc
    · cases hc
    · rw [idEq_iff] at h1
      exact ⟨h1.symm, (Option.some.inj hc).symm⟩
  refine ⟨loc', h.types, h.low, (fun _ => ⟨rfl, rfl⟩), h.size, h.small, h.defers, h.same, fun j => ?_, fun j c hc => ?_, fun j x hj hk => ?_, fun j b k hj => ?_, fun j c hc => ?_, fun j hj => ?_, fun j j' c c' b k k' hc hc' hj hj' => ?_, ?_⟩
  · simp only [St.thaw]
    cases hji : (j == i) <;> simp only [hji, cond_true, cond_false]
    · have := h.tmp j
      cases hd : s.t j <;> simp only [plainD, Rep]
      rw [hd] at this
      simpa only [Rep] using this
    · simp only [beq_iff_eq] at hji
      subst hji
      simp only [Rep]
      exact ⟨aa, cap, l, ys.length, q1, q2, hself, by omega, fun _ => ⟨trivial, hl4⟩, hl3⟩
  · obtain ⟨rfl, rfl⟩ := hm j c hc
    exact ⟨l, ys, hself, .inl ⟨by simp only [Rep]; exact ⟨trivial, hflat⟩, hl1⟩⟩
  · obtain ⟨rfl, _⟩ := hcase j x hj
    show s.c i < upd s.c i (s.c i + 1) i
    rw [upd_eq, if_pos rfl]; omega
  · obtain ⟨rfl, e⟩ := hcase _ _ hj
    simp only [Prod.mk.injEq] at e
    obtain ⟨r1, r2, _⟩ := hl2 b e.1.symm
    exact ⟨fun _ => .inl r1, r2⟩
  · obtain ⟨rfl, _⟩ := hm j c hc
    exact Nat.lt_trans hi (by decide)
  · simp only [loc']
    rw [if_neg (by rintro rfl; omega), if_pos hj]
    exact h.lent j hj
  · rw [(hm j c hc).1, (hm j' c' hc').1]
  · have key : ∀ g, (Globs.tab g).isSome = true ∨ (Globs.any g).isSome = true → loc'.avoids g := by
      intro g hg j k hj
      obtain ⟨_, e⟩ := hcase _ _ hj
      simp only [Prod.mk.injEq] at e
      have := (hl2 g e.1.symm).1
      have := h.low.2.2 g hg
      omega
    exact ⟨fun g zs hg => ⟨(h.glob.tab g zs hg).1, key g (.inl (by rw [hg]; rfl))⟩, fun g Q hg => by
      obtain ⟨zs, r1, r2, _⟩ := h.glob.any g Q hg
      exact ⟨zs, r1, r2, key g (.inr (by rw [hg]; rfl))⟩⟩

/-- The state at the begin of a function to which nothing is lent. -/
def entryS (args : List D) : St := { t := fun i => args.getD i .junk, m := fun _ => none, c := fun i => bif i == lentKey then 7 else 0 }
def finQS (T : Types) (rs : List ResultVar) (res : D) (s : St) : Prop := finQN T rs res s ∨ ∃ s', Sim s s' ∧ finQN T rs res s'
def bodyQS (T : Types) (rs : List ResultVar) (res : D) : Ex → St → Prop
  | .normal, s => finQS T rs res s
  | .ret, s => finQS T rs res s
  | .exit _, _ => False

/-- THE CONTRACT OF A FUNCTION TO WHICH NOTHING IS LENT, FROM ITS BODY. -/
theorem satS_of_wp {P : Program} {T : Types} (hm : P.follows .mixedOrders = true) (hT : TOk P T) {g : FuncId} {fn : Func} {c : Code} {args : List D} {res : D} (hf : P.funcs[g]? = some fn) (hb : fn.body = some c)
    (hname : (fn.name == "runtime.NumGoroutine") = false) {k : Nat} (hk : fn.ntmps = k) (hlen : Nat.ble args.length k = true) (hsmall : Nat.ble k lentKey = true) {rs : Array ResultVar} (hrs : fn.results = rs)
    (hcode : codeOk k c = true) (h : wp P T c (bodyQS T rs.toList res) (entryS args)) : Sat P g args res := by
  refine ⟨⟨fn, c, hf, hb, hname⟩, fun w vs hgl hr => ?_⟩
  have hal := hr.length
  have hlen' := Nat.le_of_ble_eq_true hlen
  refine calls_of_wp hf hb ?_
  have hinv : Inv P T k w w.heap.size noLoc (entryS args) { tmps := ⟨vs⟩ ++ Array.replicate (fn.ntmps - (⟨vs⟩ : Array Value).size) undef, defers := [] } w noLoc := by
    refine ⟨hT, ⟨Nat.le_refl _, .inl rfl, hgl.lt⟩, (fun _ => ⟨rfl, rfl⟩), by simp [hk]; omega, Nat.le_of_ble_eq_true hsmall, rfl, ⟨rfl, rfl, rfl, Nat.le_refl _, fun _ _ _ => rfl, fun b k e fr hk => ⟨k, e, fr, hk, Nat.le_refl _⟩⟩, fun i => ?_, fun id c hc => by simp [entryS] at hc, fun id l hl => by simp [noLoc] at hl, fun id b k hl => by simp [noLoc] at hl, fun id c hc => by simp [entryS] at hc, fun _ _ => rfl, fun id id' c c' b k k' hc => by simp [entryS] at hc, hgl⟩
    simp only [entryS]
    rw [List.getD_eq_getElem?_getD]
    cases hd : args[i]? with
    | none => simp [Rep]
    | some d =>
      obtain ⟨y, h1, h2⟩ := hr.get i d hd
      have hlt : i < vs.length := (List.getElem?_eq_some_iff.1 h1).1
      have : (({ tmps := (⟨vs⟩ : Array Value) ++ Array.replicate (fn.ntmps - (⟨vs⟩ : Array Value).size) undef, defers := [] } : Act).tmps.getD i undef) = y := by
        rw [Array.getD_eq_getD_getElem?, Array.getElem?_append_left (by simpa using hlt)]
        simp [h1]
      rw [this]
      exact h2
  refine wp_sound hm c hcode _ _ _ _ _ _ h hinv ?_
  intro e x s' a' w' loc' he hq hi
  have fin0 : ∀ s' loc', finQN T rs.toList res s' → Inv P T k w w.heap.size noLoc s' a' w' loc' → a'.defers = [] ∧ ∃ v, (results fn a'.tmps).run P w' = .ok v w' ∧ (∃ y loc, Ending.returned v = .returned y ∧ RowKit.Below w.heap.size w w' ∧ ResRep w' w.heap.size res y loc) := by
    intro s' loc' hq hi
    obtain ⟨ds, vs', ⟨h1, ds', h2, es, h5, h6, rfl⟩, h3, h4⟩ := resK_sound hi rs.toList _ hq
    obtain ⟨locr, hres⟩ := exp_sound hi h3 h1 h2
    refine ⟨hi.defers, _, run_results (by rw [hrs]; exact h4), _, _, rfl, ?_, hres.nil h6 h5⟩
    exact ⟨hi.same.os, hi.same.tape, hi.same.output, hi.same.size, fun k hk => hi.same.block k hk (fun h => by obtain ⟨_, _, _, _, h⟩ := h; cases h)⟩
  have fin : finQS T rs.toList res s' → a'.defers = [] ∧ ∃ v, (results fn a'.tmps).run P w' = .ok v w' ∧ (∃ y loc, Ending.returned v = .returned y ∧ RowKit.Below w.heap.size w w' ∧ ResRep w' w.heap.size res y loc) := by
    rintro (hq | ⟨s2, hsim, hq⟩)
    · exact fin0 _ _ hq hi
    · obtain ⟨loc2, hi2⟩ := hsim _ _ _ _ _ _ _ _ _ hi
      exact fin0 _ _ hq hi2
  cases e with
  | normal => cases he; exact fin hq
  | ret => cases he; exact fin hq
  | exit id => cases he; exact hq.elim
  | _ => cases he
end Go.V
