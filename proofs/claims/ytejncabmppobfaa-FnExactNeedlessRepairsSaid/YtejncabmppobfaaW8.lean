import Derived.Test.YtejncabmppobfaaW7
set_option linter.unusedVariables false
set_option linter.unusedSimpArgs false
/- A contract from the weakest precondition of a function's body. -/
set_option linter.unusedVariables false
set_option linter.unusedSimpArgs false
set_option linter.unusedSectionVars false
namespace Go.V
variable [Globs]

theorem ble_true {a b : Nat} (h : a ≤ b) : Nat.ble a b = true := by rw [Nat.ble_eq]; exact h

theorem mapO_get {α β : Type} {f : α → Option β} : ∀ {l : List α} {l' : List β}, mapO f l = some l' → ∀ (j : Nat), (∀ x, l[j]? = some x → ∃ y, l'[j]? = some y ∧ f x = some y) ∧ (l[j]? = none → l'[j]? = none)
  | [], l', h, j => by simp only [mapO, Option.some.injEq] at h; subst h; simp
  | x :: l, l', h, j => by
    simp only [mapO] at h
    split at h
    · rename_i y hy
      split at h
      · rename_i ys hys
        simp only [Option.some.injEq] at h
        subst h
        cases j with
        | zero => simp [hy]
        | succ j => simpa using mapO_get hys j
      · simp at h
    · simp at h

theorem cleanL_of {ds : List D} (h : ∀ d ∈ ds, clean d = true) : cleanL ds = true := by
  induction ds with
  | nil => rfl
  | cons d ds ih => simp only [cleanL, Bool.and_eq_true]; exact ⟨h d (by simp), ih fun x hx => h x (by simp [hx])⟩

theorem deepO_clean {bad : List Id} {m : Id → Option D} : ∀ (n : Nat) (d d' : D), deep true bad m n d = some d' → clean d' = true
  | 0, d, d', h => by simp [deep] at h
  | n + 1, d, d', h => by
    have ih := deepO_clean (bad := bad) (m := m) n
    have ihL : ∀ {ds ds' : List D}, mapO (deep true bad m n) ds = some ds' → cleanL ds' = true := by
      intro ds
      induction ds with
      | nil => intro ds' h; simp only [mapO, Option.some.injEq] at h; subst h; rfl
      | cons x ds ihd =>
        intro ds' h
        simp only [mapO] at h
        split at h
        · rename_i y hy
          split at h
          · rename_i ys hys
            simp only [Option.some.injEq] at h
            subst h
            simp only [cleanL, Bool.and_eq_true]
            exact ⟨ih _ _ hy, ihd hys⟩
          · simp at h
        · simp at h
    cases d with
    | junk => simp only [deep, Option.some.injEq] at h; subst h; rfl
    | mr _ => simp only [deep, Option.some.injEq] at h; subst h; rfl
    | obj _ => simp only [deep, reduceCtorEq] at h
    | v x => simp only [deep, Option.some.injEq] at h; subst h; rfl
    | ptr id off =>
      simp only [deep] at h
      split at h <;> try (simp at h; done)
      cases hb : (true && (idIn id bad || Nat.ble lentKey id.1)) <;> simp only [hb, cond_true, cond_false] at h
      all_goals first
        | (simp at h; done)
        | skip
      all_goals (split at h <;> first | (simp at h; done) | (simp only [Option.some.injEq] at h; subst h; rename_i hc; simp only [clean, Bool.true_and]; exact ih _ _ hc))
    | slc f sz id off len =>
      simp only [deep] at h
      cases hb : (true && (!f || (idIn id bad || Nat.ble lentKey id.1))) <;> simp only [hb, cond_true, cond_false] at h
      · split at h
        · simp only [Option.some.injEq] at h; subst h; rfl
        · split at h
          · rename_i hds
            simp only [Option.some.injEq] at h; subst h
            simp only [clean, Bool.true_and]
            exact ihL hds
          · simp at h
        · simp at h
      · simp at h
    | ref mi c off =>
      simp only [deep] at h
      cases hb : (true && !mi) <;> simp only [hb, cond_true, cond_false] at h
      · split at h
        · rename_i hc; simp only [Option.some.injEq] at h; subst h; simp only [clean, Bool.true_and]; exact ih _ _ hc
        · simp at h
      · simp at h
    | row mi sz c len =>
      simp only [deep] at h
      cases hb : (true && !mi) <;> simp only [hb, cond_true, cond_false] at h
      · split at h
        · rename_i hc; simp only [Option.some.injEq] at h; subst h; simp only [clean, Bool.true_and]; exact ih _ _ hc
        · simp at h
      · simp at h
    | agg ds =>
      simp only [deep] at h
      split at h
      · rename_i hds; simp only [Option.some.injEq] at h; subst h; simp only [clean]; exact ihL hds
      · simp at h
    | tup ds =>
      simp only [deep] at h
      split at h
      · rename_i hds; simp only [Option.some.injEq] at h; subst h; simp only [clean]; exact ihL hds
      · simp at h
    | fn f a b =>
      simp only [deep] at h
      split at h
      · rename_i ha
        split at h
        · rename_i hb; simp only [Option.some.injEq] at h; subst h; simp only [clean, Bool.and_eq_true]; exact ⟨ihL ha, ihL hb⟩
        · simp at h
      · simp at h

section
variable {out : Bool} {bad : List Id} {m : Id → Option D} {n : Nat}
theorem deep_ptr {id : Id} {off : Nat} {d : D} (h : deep out bad m (n + 1) (.ptr id off) = some d) : ∃ c, d = .ref out c off := by
  simp only [deep] at h
  cases hb : (out && (idIn id bad || Nat.ble lentKey id.1)) <;> simp only [hb, cond_true, cond_false] at h
  · split at h
    · split at h
      · simp only [Option.some.injEq] at h; exact ⟨_, h.symm⟩
      · cases h
    · cases h
  · cases h
theorem deep_ref {mi : Bool} {c : D} {off : Nat} {d : D} (h : deep out bad m (n + 1) (.ref mi c off) = some d) : ∃ c', d = .ref out c' off := by
  simp only [deep] at h
  cases hb : (out && !mi) <;> simp only [hb, cond_true, cond_false] at h
  · split at h
    · simp only [Option.some.injEq] at h; exact ⟨_, h.symm⟩
    · cases h
  · cases h
theorem deep_agg {ds : List D} {d : D} (h : deep out bad m (n + 1) (.agg ds) = some d) : ∃ ds', d = .agg ds' := by
  simp only [deep] at h
  split at h
  · simp only [Option.some.injEq] at h; exact ⟨_, h.symm⟩
  · cases h
theorem deep_fn {f : Fn} {a b : List D} {d : D} (h : deep out bad m (n + 1) (.fn f a b) = some d) : ∃ a' b', d = .fn f a' b' := by
  simp only [deep] at h
  split at h
  · split at h
    · simp only [Option.some.injEq] at h; exact ⟨_, _, h.symm⟩
    · cases h
  · cases h
end

section
variable {w : World} {base : Nat} {loc : Loc}

/-- Data for a result. -/
theorem deep_out {bad : List Id} {m : Id → Option D} (hm : MemOk w base loc m) {locr : Loc} (hown : ∀ id b k, loc id = some (some b, k) → id.1 < lentKey → base ≤ b)
    (hsub : ∀ b, loc.avoids b → locr.avoids b) (hbad : ∀ id c b k, m id = some c → idIn id bad = false → loc id = some (some b, k) → locr.avoids b) :
    ∀ (n : Nat) (d d' : D) (y : Value), deep true bad m n d = some d' → Rep w base loc d y → Rep w base locr d' y
  | 0, d, d', y, h, _ => by simp [deep] at h
  | n + 1, d, d', y, h, hr => by
    have ih := deep_out hm hown hsub hbad n
    cases d with
    | junk => simp only [deep, Option.some.injEq] at h; subst h; simp [Rep]
    | mr _ => simp only [deep, Option.some.injEq] at h; subst h; simp [Rep]
    | obj _ => simp only [deep, reduceCtorEq] at h
    | v x =>
      simp only [deep, Option.some.injEq] at h
      subst h
      simpa only [Rep] using hr
    | ptr id off =>
      simp only [deep] at h
      cases hb : (true && (idIn id bad || Nat.ble lentKey id.1)) <;> simp only [hb, cond_true, cond_false] at h
      · simp only [Bool.true_and, Bool.or_eq_false_iff] at hb
        split at h
        · rename_i c hc
          split at h
          · rename_i c' hc'
            simp only [Option.some.injEq] at h
            subst h
            simp only [Rep] at hr ⊢
            obtain ⟨b, k, h1, h2⟩ := hr
            obtain ⟨l, xs, g1, g23⟩ := hm id c hc
            obtain ⟨g2, g3⟩ := g23.cells (by rintro x rfl; cases n <;> simp [deep] at hc')
            rw [h1] at g1
            simp only [Option.some.injEq, Prod.mk.injEq] at g1
            obtain ⟨rfl, _⟩ := g1
            have hlt : id.1 < lentKey := by
              rcases Nat.lt_or_ge id.1 lentKey with h | h
              · exact h
              · have := hb.2; rw [ble_true h] at this; cases this
            exact ⟨b, 0, xs, by rw [h2, Nat.zero_add], At.of_blk g3, hbad id c b k hc hb.1 h1, fun _ => hown id b k h1 hlt, ih c c' _ hc' g2⟩
          · simp at h
        · simp at h
      · simp at h
    | slc full sz id off len =>
      simp only [deep] at h
      cases hb : (true && (!full || (idIn id bad || Nat.ble lentKey id.1))) <;> simp only [hb, cond_true, cond_false] at h
      · simp only [Bool.true_and, Bool.or_eq_false_iff, Bool.not_eq_false'] at hb
        obtain ⟨hfull, hb⟩ := hb
        have hlt : id.1 < lentKey := by
          rcases Nat.lt_or_ge id.1 lentKey with h | h
          · exact h
          · have := hb.2; rw [ble_true h] at this; cases this
        have main : ∀ c c' : D, m id = some c → (∀ x, c ≠ .obj x) → (∀ xs, Rep w base loc c (.agg ⟨xs⟩) → off + len * sz ≤ xs.length → Rep w base locr c' (.agg ⟨(xs.drop off).take (len * sz)⟩)) → Rep w base locr (.row true sz c' len) y := by
          intro c c' hc hno hcc
          simp only [Rep] at hr ⊢
          obtain ⟨a, cap, l, k, h1, h2, h3, h4, h5, h6⟩ := hr
          obtain ⟨l', xs, g1, g23⟩ := hm id c hc
          obtain ⟨g2, g3⟩ := g23.cells hno
          rw [h3] at g1
          simp only [Option.some.injEq, Prod.mk.injEq] at g1
          obtain ⟨rfl, rfl⟩ := g1
          refine ⟨a, cap, (xs.drop off).take (len * sz), h1, h2, hcc xs g2 h4, by simp; omega, ?_, fun _ => ?_⟩
          rotate_left
          · cases l with
            | none => exact .inl h6
            | some b =>
              obtain ⟨o, k1, k2, k3⟩ := h6
              obtain ⟨r1, k', e', fr', r2, r3⟩ := k3 hfull
              obtain ⟨k0, e0, r4, _, _⟩ := g3
              rw [r4] at r2
              simp only [Option.some.injEq, Obj.cells.injEq] at r2
              obtain ⟨rfl, rfl, _⟩ := r2
              subst r1
              exact .inr ⟨b, _, _, k1, hbad id c b _ hc hb.1 h3, hown id b _ h3 hlt, r4, r3⟩
          cases l with
          | none => exact .inl (by simp [h6.1])
          | some b =>
            obtain ⟨o, k1, k2, k3⟩ := h6
            by_cases hz : len * sz = 0
            · exact .inl hz
            · have hl : len ≠ 0 := fun e => hz (by simp [e])
              refine .inr ⟨b, o, k1, ?_, hbad id c b _ hc hb.1 h3, fun _ => hown id b _ h3 hlt⟩
              have := (At.of_blk g3).sub off (len * sz) h4
              rw [Nat.zero_add, ← k2 hl] at this
              rw [← k2 hl]
              exact this
        split at h
        · rename_i a hc
          simp only [Option.some.injEq] at h
          subst h
          refine main _ _ hc (by simp) fun xs hx hl => ?_
          simp only [Rep, Value.agg.injEq] at hx ⊢
          obtain ⟨rfl, hf⟩ := hx
          refine ⟨rfl, ?_⟩
          simp only [Flat, List.all_eq_true] at hf ⊢
          exact fun x hx => hf x (List.mem_of_mem_drop (List.mem_of_mem_take hx))
        · rename_i ds hc
          split at h
          · rename_i ds' hds
            simp only [Option.some.injEq] at h
            subst h
            refine main _ _ hc (by simp) fun xs hx hl => ?_
            simp only [Rep, Value.agg.injEq, Array.mk.injEq] at hx ⊢
            obtain ⟨vs, rfl, h2, h3⟩ := hx
            refine ⟨_, rfl, mapO_rep (fun d d' y => ih d d' y) hds ((h2.drop off).take _), ?_⟩
            simp only [List.all_eq_true] at h3 ⊢
            exact fun x hx => h3 x (List.mem_of_mem_drop (List.mem_of_mem_take hx))
          · simp at h
        · simp at h
      · simp at h
    | ref mi c off =>
      simp only [deep] at h
      cases hb : (true && !mi) <;> simp only [hb, cond_true, cond_false] at h
      · simp only [Bool.true_and, Bool.not_eq_false'] at hb
        split at h
        · rename_i c' hc'
          simp only [Option.some.injEq] at h
          subst h
          simp only [Rep] at hr ⊢
          obtain ⟨b, o, xs, h1, h2, h3, h4, h5⟩ := hr
          exact ⟨b, o, xs, h1, h2, hsub b h3, fun _ => h4 hb, ih c c' _ hc' h5⟩
        · simp at h
      · simp at h
    | row mi sz c len =>
      simp only [deep] at h
      cases hb : (true && !mi) <;> simp only [hb, cond_true, cond_false] at h
      · simp only [Bool.true_and, Bool.not_eq_false'] at hb
        split at h
        · rename_i c' hc'
          simp only [Option.some.injEq] at h
          subst h
          simp only [Rep] at hr ⊢
          obtain ⟨a, cap, xs, h1, h2, h3, h4, h5, hO⟩ := hr
          refine ⟨a, cap, xs, h1, h2, ih c c' _ hc' h3, h4, ?_, fun _ => ?_⟩
          rotate_left
          · rcases hO hb with hO | ⟨b, k, e, q1, q2, q3, q4⟩
            · exact .inl hO
            · exact .inr ⟨b, k, e, q1, hsub b q2, q3, q4⟩
          rcases h5 with h5 | ⟨b, o, g1, g2, g3, g4⟩
          · exact .inl h5
          · exact .inr ⟨b, o, g1, g2, hsub b g3, fun _ => g4 hb⟩
        · simp at h
      · simp at h
    | agg ds =>
      simp only [deep] at h
      split at h
      · rename_i ds' hds
        simp only [Option.some.injEq] at h
        subst h
        simp only [Rep] at hr ⊢
        obtain ⟨vs, h1, h2, h3⟩ := hr
        exact ⟨vs, h1, mapO_rep (fun d d' y => ih d d' y) hds h2, h3⟩
      · simp at h
    | tup ds =>
      simp only [deep] at h
      split at h
      · rename_i ds' hds
        simp only [Option.some.injEq] at h
        subst h
        simp only [Rep] at hr ⊢
        obtain ⟨vs, h1, h2⟩ := hr
        exact ⟨vs, h1, mapO_rep (fun d d' y => ih d d' y) hds h2⟩
      · simp at h
    | fn f a b =>
      simp only [deep] at h
      split at h
      · rename_i a' ha
        split at h
        · rename_i b' hb
          simp only [Option.some.injEq] at h
          subst h
          simp only [Rep] at hr ⊢
          obtain ⟨va, vb, h1, h2, h3⟩ := hr
          exact ⟨va, vb, h1, mapO_rep (fun d d' y => ih d d' y) ha h2, mapO_rep (fun d d' y => ih d d' y) hb h3⟩
        · simp at h
      · simp at h
end

section
variable {P : Program} {T : Types} {n bs : Nat} {w0 w : World} {l0 : Loc} {s : St} {a : Act} {loc : Loc}

def resOf (a : Act) : ResultVar → Sem Value
  | .tmp t => pure (a.tmps.getD t undef)
  | .cell x t => do loadVar t (← asAddr (a.tmps.getD x undef))

theorem resK_sound (h : Inv P T n w0 bs l0 s a w loc) : ∀ (rs : List ResultVar) (K : List D → Prop), resK T s rs K → ∃ ds vs, K ds ∧ RepL w bs loc ds vs ∧ (rs.mapM (resOf a)).run P w = .ok vs w
  | [], K, hk => ⟨[], [], hk, by simp [RepL], by simp⟩
  | .tmp t :: r, K, hk => by
    simp only [resK] at hk
    rw [force_eq] at hk
    obtain ⟨ds, vs, h1, h2, h3⟩ := resK_sound h r _ hk
    refine ⟨_, a.tmps.getD t undef :: vs, h1, ?_, ?_⟩
    · simp only [RepL]; exact ⟨_, vs, rfl, h.tmp t, h2⟩
    · simp [List.mapM_cons, resOf, h3]
  | .cell x t :: r, K, hk => by
    simp only [resK] at hk
    split at hk
    · rename_i id off hx
      have hv := h.tmp x
      rw [hx] at hv
      simp only [Rep] at hv
      obtain ⟨b, k, hl, hv⟩ := hv
      split at hk
      · rename_i c hc
        obtain ⟨l, xs, g1, g23⟩ := h.mem id c hc
        obtain ⟨g2, g3⟩ := g23.cells (by rintro z rfl; exact loadK_obj hk)
        rw [hl] at g1
        simp only [Option.some.injEq, Prod.mk.injEq] at g1
        obtain ⟨rfl, _⟩ := g1
        obtain ⟨d, z, k1, k2, k3⟩ := loadK_sound h.types hk g2 (At.of_blk g3)
        rw [Nat.zero_add] at k2
        obtain ⟨ds, vs, h1, h2, h3⟩ := resK_sound h r _ k1
        refine ⟨_, z :: vs, h1, ?_, ?_⟩
        · simp only [RepL]; exact ⟨z, vs, rfl, k3, h2⟩
        · simp [List.mapM_cons, resOf, h3, hv, asAddr, k2]
      · exact hk.elim
    · exact hk.elim

def joinV : List Value → Value
  | [v] => v
  | vs => .tuple ⟨vs⟩

theorem run_results {fn : Func} {vs : List Value} (h : (fn.results.toList.mapM (resOf a)).run P w = .ok vs w) : (results fn a.tmps).run P w = .ok (joinV vs) w := by
  have e : (fn.results.mapM fun
    | .tmp t => pure (a.tmps.getD t undef)
    | .cell x t => do loadVar t (← asAddr (a.tmps.getD x undef)) : Sem (Array Value)) = (List.toArray <$> fn.results.toList.mapM (resOf a)) := by
    rw [Array.mapM_eq_mapM_toList]
    congr 2
  unfold results
  rw [Sem.run_bind]
  have e2 := congrArg (fun x : Sem (Array Value) => x.run P w) e
  refine (congrArg (fun r => Result.andThen r _) e2).trans ?_
  rw [Sem.run_map, h]
  match vs with
  | [] => rfl
  | [v] => rfl
  | x :: y :: r => rfl

theorem topIds_mem {ds : List D} {j : Nat} {f : Bool} {sz : Nat} {id : Id} {off len : Nat} (h : ds[j]? = some (.slc f sz id off len)) : idIn id (topIds ds) = true := by
  induction ds generalizing j with
  | nil => simp at h
  | cons d ds ih =>
    cases j with
    | zero =>
      simp at h; subst h
      simp [topIds, idIn]
    | succ j =>
      simp at h
      have := ih h
      cases d <;> simp only [topIds] <;> first | exact this | (unfold idIn at this ⊢; simp only [List.any_cons, this, Bool.or_true])

theorem idIn_iff {id : Id} {l : List Id} : idIn id l = true ↔ id ∈ l := by
  unfold idIn
  rw [List.any_eq_true]
  constructor
  · rintro ⟨j, hj, h⟩
    simp only [Bool.and_eq_true, beq_iff_eq] at h
    obtain ⟨x, y, z⟩ := id
    obtain ⟨x', y', z'⟩ := j
    simp only at h
    rw [← h.1, ← h.2.1, ← h.2.2]
    exact hj
  · intro h
    exact ⟨id, h, by simp⟩

theorem distinct_get {ds : List D} (hd : distinct (topIds ds) = true) : ∀ {j j' : Nat} {f f' : Bool} {sz sz' : Nat} {id : Id} {off off' len len' : Nat}, ds[j]? = some (.slc f sz id off len) → ds[j']? = some (.slc f' sz' id off' len') → j = j' := by
  induction ds with
  | nil => intro j j' _ _ _ _ _ _ _ _ _ h; simp at h
  | cons d ds ih =>
    intro j j' f f' sz sz' id off off' len len' h h'
    have hd' : distinct (topIds ds) = true := by
      cases d <;> simp only [topIds] at hd <;> first | exact hd | (simp only [distinct, Bool.and_eq_true] at hd; exact hd.2)
    cases j with
    | zero =>
      cases j' with
      | zero => rfl
      | succ j' =>
        simp at h h'
        subst h
        simp only [topIds, distinct, Bool.and_eq_true, Bool.not_eq_true'] at hd
        rw [topIds_mem h'] at hd
        simp at hd
    | succ j =>
      cases j' with
      | zero =>
        simp at h h'
        subst h'
        simp only [topIds, distinct, Bool.and_eq_true, Bool.not_eq_true'] at hd
        rw [topIds_mem h] at hd
        simp at hd
      | succ j' => simp at h h'; rw [ih hd' h h']

/-- What is handed back. -/
theorem exp_sound (h : Inv P T n w0 w0.heap.size noLoc s a w loc) {ds ds' : List D} {vs : List Value} (hr : RepL w w0.heap.size loc ds vs) (hd : distinct (topIds ds) = true) (he : mapO (expD (topIds ds) s.m) ds = some ds') :
    ∃ locr, ResRep w w0.heap.size (one' ds') (joinV vs) locr := by
  let locr : Loc := fun id => if id.1 = 0 ∧ id.2.1 = 0 then (match ds[id.2.2]? with | some (.slc true _ id' 0 _) => loc id' | _ => none) else none
  have hl : ∀ id l, locr id = some l → id.1 = 0 ∧ id.2.1 = 0 ∧ ∃ sz id' len, ds[id.2.2]? = some (.slc true sz id' 0 len) ∧ loc id' = some l := by
    intro id l hl
    simp only [locr] at hl
    split at hl
    · rename_i h0
      refine ⟨h0.1, h0.2, ?_⟩
      split at hl
      · rename_i sz id' len hd'
        exact ⟨sz, id', len, hd', hl⟩
      · cases hl
    · cases hl
  have hat : ∀ (j sz : Nat) (id : Id) (len : Nat), ds[j]? = some (.slc true sz id 0 len) → locr (0, 0, j) = loc id := by
    intro j sz id len hj
    simp only [locr, hj, and_self, if_true]
  have exp_slc : ∀ (j sz : Nat) (id : Id) (len : Nat), ds[j]? = some (D.slc true sz id 0 len) → ∃ c c', s.m id = some c ∧ deep true (topIds ds) s.m depth c = some c' ∧ ds'[j]? = some (D.row true sz c' len) ∧ id.1 < lentKey := by
    intro j sz id len hj
    obtain ⟨y, h1, h2⟩ := (mapO_get he j).1 _ hj
    simp only [expD] at h2
    cases hb : Nat.ble lentKey id.1 <;> simp only [hb, cond_true, cond_false] at h2
    · have hlt : id.1 < lentKey := by
        rcases Nat.lt_or_ge id.1 lentKey with h | h
        · exact h
        · rw [ble_true h] at hb; cases hb
      split at h2
      · rename_i c hc
        split at h2
        · rename_i c' hc'
          simp only [Option.some.injEq] at h2
          subst h2
          exact ⟨c, c', hc, hc', h1, hlt⟩
        · simp at h2
      · simp at h2
    · simp at h2
  have hown : ∀ id b k, loc id = some (some b, k) → id.1 < lentKey → w0.heap.size ≤ b := fun id b k he _ => by
    rcases (h.range id b k he).1 (Nat.lt_trans ‹_› (by decide)) with h | h
    · exact h
    · obtain ⟨_, _, _, _, h⟩ := h; cases h
  have hsub : ∀ b, loc.avoids b → locr.avoids b := by
    intro b hv id k hk
    obtain ⟨_, _, sz, id', len, _, hl'⟩ := hl id _ hk
    exact hv _ _ hl'
  have hbad : ∀ id c b k, s.m id = some c → idIn id (topIds ds) = false → loc id = some (some b, k) → locr.avoids b := by
    intro id c b k hc hin hlo id2 k2 hk2
    obtain ⟨_, _, sz, id', len, hdj, hl'⟩ := hl id2 _ hk2
    obtain ⟨c2, _, hc2, _⟩ := exp_slc _ _ _ _ hdj
    have := h.inj _ _ _ _ _ _ _ hc hc2 hlo hl'
    subst this
    rw [topIds_mem hdj] at hin
    cases hin
  have hdeep := fun n d d' y => deep_out (bad := topIds ds) h.mem hown hsub hbad n d d' y
  have part : ∀ j d y d', ds[j]? = some d → Rep w w0.heap.size loc d y → ds'[j]? = some d' → clean d' = true ∧ (∀ x, d' ≠ .tup x) ∧ Rep w w0.heap.size locr (impD 0 0 j d') y := by
    intro j d y d' hj hrep hj'
    obtain ⟨y', h1, h2⟩ := (mapO_get he j).1 _ hj
    rw [hj'] at h1
    cases h1
    cases d with
    | slc f sz id off len =>
      have hfo : f = true ∧ off = 0 := by
        cases f
        · simp [expD] at h2
        · cases off with
          | zero => exact ⟨rfl, rfl⟩
          | succ o => simp [expD] at h2
      obtain ⟨rfl, rfl⟩ := hfo
      obtain ⟨c, c', hc, hc', hj2, hlt⟩ := exp_slc _ _ _ _ hj
      rw [hj'] at hj2
      simp only [Option.some.injEq] at hj2
      subst hj2
      refine ⟨by simp only [clean, Bool.true_and]; exact deepO_clean _ _ _ hc', by simp, ?_⟩
      simp only [impD]
      rw [Rep] at hrep ⊢
      obtain ⟨aa, cap, l, k, g1, g2, g3, g4⟩ := hrep
      exact ⟨aa, cap, l, k, g1, g2, by rw [hat _ _ _ _ hj]; exact g3, g4⟩
    | row => simp [expD] at h2
    | tup => simp [expD] at h2
    | junk =>
      have h3 : D.junk = d' := by simpa [expD, deep, depth] using h2
      subst h3
      exact ⟨rfl, by simp, by simp [impD, Rep]⟩
    | obj x => simp [Rep] at hrep
    | mr _ =>
      have h3 : D.junk = d' := by simpa [expD, deep, depth] using h2
      subst h3
      exact ⟨rfl, by simp, by simp [impD, Rep]⟩
    | v x =>
      have h3 : D.v x = d' := by simpa [expD, deep, depth] using h2
      subst h3
      exact ⟨rfl, by simp, by simpa only [impD, Rep] using hrep⟩
    | ptr id off =>
      obtain ⟨c, rfl⟩ := deep_ptr (n := 11) h2
      exact ⟨deepO_clean _ _ _ h2, by simp, by simpa only [impD] using hdeep _ _ _ _ h2 hrep⟩
    | ref mi c off =>
      obtain ⟨c, rfl⟩ := deep_ref (n := 11) h2
      exact ⟨deepO_clean _ _ _ h2, by simp, by simpa only [impD] using hdeep _ _ _ _ h2 hrep⟩
    | agg es =>
      obtain ⟨c, rfl⟩ := deep_agg (n := 11) h2
      exact ⟨deepO_clean _ _ _ h2, by simp, by simpa only [impD] using hdeep _ _ _ _ h2 hrep⟩
    | fn f a1 b1 =>
      obtain ⟨c, c', rfl⟩ := deep_fn (n := 11) h2
      exact ⟨deepO_clean _ _ _ h2, by simp, by simpa only [impD] using hdeep _ _ _ _ h2 hrep⟩
  have hlen := mapO_length he
  have hparts : ∀ (j0 : Nat) (es es' : List D) (us : List Value), (∀ j, es[j]? = ds[j0 + j]?) → (∀ j, es'[j]? = ds'[j0 + j]?) → RepL w w0.heap.size loc es us → RepL w w0.heap.size locr (impL 0 0 j0 es') us ∧ cleanL es' = true := by
    intro j0 es
    induction es generalizing j0 with
    | nil =>
      intro es' us h1 h2 h3
      have h4 := h1 0
      simp only [Nat.add_zero] at h4
      have h5 := (mapO_get he j0).2 (by rw [← h4]; rfl)
      have h6 := h2 0
      simp only [Nat.add_zero] at h6
      rw [h5] at h6
      cases es' with
      | nil => exact ⟨by simpa only [impL, RepL] using h3, rfl⟩
      | cons e r => simp at h6
    | cons e es ih =>
      intro es' us h1 h2 h3
      have h4 := h1 0
      simp only [Nat.add_zero, List.getElem?_cons_zero] at h4
      obtain ⟨d', h5, h6⟩ := (mapO_get he j0).1 e h4.symm
      have h7 := h2 0
      simp only [Nat.add_zero] at h7
      rw [h5] at h7
      cases es' with
      | nil => simp at h7
      | cons e' r =>
        simp at h7
        subst h7
        simp only [RepL] at h3
        obtain ⟨y, ys, rfl, h8, h9⟩ := h3
        obtain ⟨p1, p2, p3⟩ := part j0 e y e' h4.symm h8 h5
        obtain ⟨q1, q2⟩ := ih (j0 + 1) r ys (fun j => by have := h1 (j + 1); simp only [List.getElem?_cons_succ] at this; rw [this]; congr 1; omega) (fun j => by have := h2 (j + 1); simp only [List.getElem?_cons_succ] at this; rw [this]; congr 1; omega) h9
        simp only [impL, RepL, cleanL, Bool.and_eq_true]
        exact ⟨⟨y, ys, rfl, p3, q1⟩, p1, q2⟩
  obtain ⟨hall, hclean⟩ := hparts 0 ds ds' vs (by simp) (by simp) hr
  have htops : tops (one' ds') = ds' := by
    match hds : ds' with
    | [] => rfl
    | [d'] =>
      have hl1 : ds.length = 1 := by rw [← hlen]; rfl
      obtain ⟨d, hdd⟩ : ∃ d, ds = [d] := List.length_eq_one_iff.1 hl1
      subst hdd
      simp only [RepL] at hr
      obtain ⟨y, ys, _, h8, _⟩ := hr
      have := (part 0 d y d' rfl h8 rfl).2.1
      cases d' <;> first | rfl | exact absurd rfl (this _)
    | x :: y :: r => rfl
  refine ⟨locr, ?_, ?_, ?_, ?_, ?_, ?_⟩
  · rw [htops]; exact hclean
  · match hds : ds', hvs : vs with
    | [], [] => simp only [one', impV, impL, Rep, RepL]; exact ⟨[], rfl, rfl⟩
    | [], v :: vs' => simp only [impL, RepL] at hall; cases hall
    | [d'], [v] =>
      simp only [impL, RepL] at hall
      obtain ⟨y, ys, h1, h2, h3⟩ := hall
      cases h1
      have ht : tops d' = [d'] := by simpa only [one'] using htops
      simp only [one']
      cases d' with
      | tup x => simp only [tops] at ht; exact absurd (congrArg (fun l : List D => SizeOf.sizeOf l) ht) (by simp; omega)
      | _ => exact h2
    | [d'], [] => simp only [impL, RepL] at hall; obtain ⟨y, ys, h1, _⟩ := hall; cases h1
    | [d'], v :: v' :: vs' => simp only [impL, RepL] at hall; obtain ⟨y, ys, h1, _, h3⟩ := hall; cases h1; cases h3
    | x :: y :: r, [] => simp only [impL, RepL] at hall; obtain ⟨_, _, h1, _⟩ := hall; cases h1
    | x :: y :: r, [v] => simp only [impL, RepL] at hall; obtain ⟨_, _, h1, _, _, _, h3, _⟩ := hall; cases h1; cases h3
    | x :: y :: r, v :: v' :: vs' => simp only [one', impV]; rw [Rep]; exact ⟨_, rfl, hall⟩
  · intro id b k hk
    obtain ⟨_, _, sz, id', len, _, hl'⟩ := hl id _ hk
    obtain ⟨h1, h2⟩ := h.range _ _ _ hl'
    obtain ⟨c, _, hc, _⟩ := exp_slc _ _ _ _ ‹_›
    rcases h1 (h.live _ _ hc) with h1 | h1
    · exact ⟨h1, h2⟩
    · obtain ⟨_, _, _, _, h1⟩ := h1; cases h1
  · intro id l hk
    obtain ⟨h1, h2, sz, id', len, hdj, hl'⟩ := hl id _ hk
    obtain ⟨c, c', hc, hc', hj, _⟩ := exp_slc _ _ _ _ hdj
    refine ⟨h1, h2, ?_⟩
    rw [htops]
    simp only [impC, hj, rowC, Option.isSome_some]
  · intro id id' b k k' hk hk'
    obtain ⟨h1, h2, sz, i1, len, hdj, hl1⟩ := hl id _ hk
    obtain ⟨h1', h2', sz', i2, len', hdj', hl2⟩ := hl id' _ hk'
    obtain ⟨c, _, hc, _⟩ := exp_slc _ _ _ _ hdj
    obtain ⟨c2, _, hc2, _⟩ := exp_slc _ _ _ _ hdj'
    have := h.inj _ _ _ _ _ _ _ hc hc2 hl1 hl2
    subst this
    have := distinct_get hd hdj hdj'
    obtain ⟨x, y, z⟩ := id
    obtain ⟨x', y', z'⟩ := id'
    simp only at h1 h2 h1' h2' this
    rw [h1, h2, h1', h2', this]
  · intro j c' hj
    rw [htops] at hj
    unfold impC at hj
    split at hj
    · rename_i d' hd'
      cases hdj : ds[j]? with
      | none => have := (mapO_get he j).2 hdj; rw [this] at hd'; cases hd'
      | some d =>
        obtain ⟨y, hy1, hy2⟩ := hr.get j d hdj
        have hp := part j d y d' hdj hy2 hd'
        cases d' <;> simp only [rowC, reduceCtorEq, Option.some.injEq] at hj
        rename_i mi sz c0 len
        subst hj
        -- the part is a row: so it was a slice of the call's own
        obtain ⟨y', h1, h2⟩ := (mapO_get he j).1 _ hdj
        rw [hd'] at h1
        cases h1
        cases d with
        | slc f sz0 id off len0 =>
          have hfo : f = true ∧ off = 0 := by
            cases f
            · simp [expD] at h2
            · cases off with
              | zero => exact ⟨rfl, rfl⟩
              | succ o => simp [expD] at h2
          obtain ⟨rfl, rfl⟩ := hfo
          obtain ⟨c, c', hc, hc', hj2, hlt⟩ := exp_slc _ _ _ _ hdj
          rw [hd'] at hj2
          simp only [Option.some.injEq, D.row.injEq] at hj2
          obtain ⟨_, _, rfl, _⟩ := hj2
          obtain ⟨l, xs, g1, g23⟩ := h.mem id c hc
          obtain ⟨g2, g3⟩ := g23.cells (by rintro z rfl; simp [deep, depth] at hc')
          exact ⟨l, xs, by rw [hat _ _ _ _ hdj]; exact g1, hdeep _ _ _ _ hc' g2, g3⟩
        | row => simp [expD] at h2
        | tup => simp [expD] at h2
        | junk => simp [expD, deep, depth] at h2
        | mr _ => simp [expD, deep, depth] at h2
        | obj _ => simp [expD, deep, depth] at h2
        | v x => simp [expD, deep, depth] at h2
        | ptr id off => obtain ⟨c, h3⟩ := deep_ptr (n := 11) h2; cases h3
        | ref m1 c1 off => obtain ⟨c, h3⟩ := deep_ref (n := 11) h2; cases h3
        | agg es => obtain ⟨c, h3⟩ := deep_agg (n := 11) h2; cases h3
        | fn f a1 b1 => obtain ⟨c, c', h3⟩ := deep_fn (n := 11) h2; cases h3
    · cases hj

/-- THE CONTRACT OF A FUNCTION, FROM ITS BODY. -/
theorem sat_of_wp (hm : P.follows .mixedOrders = true) (hT : TOk P T) {g : FuncId} {fn : Func} {c : Code} {args : List D} {res : D} (hf : P.funcs[g]? = some fn) (hb : fn.body = some c)
    (hname : (fn.name == "runtime.NumGoroutine") = false) {k : Nat} (hk : fn.ntmps = k) (hlen : Nat.ble args.length k = true) (hsmall : Nat.ble k lentKey = true) {rs : Array ResultVar} (hrs : fn.results = rs)
    (hcode : codeOk k c = true) (h : wp P T c (bodyQ T rs.toList res) (entry args)) : Sat P g args res := by
  refine ⟨⟨fn, c, hf, hb, hname⟩, fun w vs hgl hr => ?_⟩
  have hal := hr.length
  have hlen' := Nat.le_of_ble_eq_true hlen
  refine calls_of_wp hf hb ?_
  have hinv : Inv P T k w w.heap.size noLoc (entry args) { tmps := ⟨vs⟩ ++ Array.replicate (fn.ntmps - (⟨vs⟩ : Array Value).size) undef, defers := [] } w noLoc := by
    refine ⟨hT, ⟨Nat.le_refl _, .inl rfl, hgl.lt⟩, (fun e => by simp [entry] at e), by simp [hk]; omega, Nat.le_of_ble_eq_true hsmall, rfl, ⟨rfl, rfl, rfl, Nat.le_refl _, fun _ _ _ => rfl, fun b k e fr hk => ⟨k, e, fr, hk, Nat.le_refl _⟩⟩, fun i => ?_, fun id c hc => by simp [entry] at hc, fun id l hl => by simp [noLoc] at hl, fun id b k hl => by simp [noLoc] at hl, fun id c hc => by simp [entry] at hc, fun _ _ => rfl, fun id id' c c' b k k' hc => by simp [entry] at hc, hgl⟩
    simp only [entry]
    rw [List.getD_eq_getElem?_getD]
    cases hd : args[i]? with
    | none => simp [Rep]
    | some d =>
      obtain ⟨y, h1, h2⟩ := hr.get i d hd
      have hlt : i < vs.length := (List.getElem?_eq_some_iff.1 h1).1
      have : (({ tmps := (⟨vs⟩ : Array Value) ++ Array.replicate (fn.ntmps - (⟨vs⟩ : Array Value).size) undef, defers := [] } : Act).tmps.getD i undef) = y := by
        rw [Array.getD_eq_getD_getElem?, Array.getElem?_append_left (by simpa using hlt)]
        simp [h1]
      rw [this]
      exact h2
  refine wp_sound hm c hcode _ _ _ _ _ _ h hinv ?_
  intro e x s' a' w' loc' he hq hi
  have fin : finQ T rs.toList res s' → a'.defers = [] ∧ ∃ v, (results fn a'.tmps).run P w' = .ok v w' ∧ (∃ y loc, Ending.returned v = .returned y ∧ RowKit.Below w.heap.size w w' ∧ ResRep w' w.heap.size res y loc) := by
    intro hq
    obtain ⟨ds, vs', ⟨h1, ds', h2, rfl⟩, h3, h4⟩ := resK_sound hi rs.toList _ hq
    obtain ⟨locr, hres⟩ := exp_sound hi h3 h1 h2
    refine ⟨hi.defers, _, run_results (by rw [hrs]; exact h4), _, locr, rfl, ?_, hres⟩
    exact ⟨hi.same.os, hi.same.tape, hi.same.output, hi.same.size, fun k hk => hi.same.block k hk (fun h => by obtain ⟨_, _, _, _, h⟩ := h; cases h)⟩
  cases e with
  | normal => cases he; exact fin hq
  | ret => cases he; exact fin hq
  | exit id => cases he; exact hq.elim
  | _ => cases he

end

/-- Types, out of a list. -/
def lk : List (Nat × TI) → Types
  | [], _ => none
  | (k, i) :: r, t => bif k == t then some i else lk r t
def ListOk (P : Program) : List (Nat × TI) → Prop
  | [] => True
  | (k, i) :: r => TIOk P k i ∧ ListOk P r
theorem TOk.of_list {P : Program} : ∀ {l : List (Nat × TI)}, ListOk P l → TOk P (lk l)
  | [], _, t, i, h => by simp [lk] at h
  | (k, j) :: r, hl, t, i, h => by
    simp only [lk] at h
    cases hk : (k == t) <;> simp only [hk, cond_true, cond_false] at h
    · exact TOk.of_list hl.2 t i h
    · simp only [beq_iff_eq] at hk
      simp only [Option.some.injEq] at h
      subst h; subst hk
      exact hl.1
end Go.V
/- Words for use: a loop by what some slots and blocks hold (their names may change from round to round). -/
set_option linter.unusedVariables false
set_option linter.unusedSimpArgs false
set_option linter.unusedSectionVars false
namespace Go.V
variable [Globs]

abbrev Rn := List (Id × Id)
def rnOf : Rn → Id → Option Id
  | [], _ => none
  | (i, j) :: r, id => bif (id.1 == i.1 && (id.2.1 == i.2.1 && id.2.2 == i.2.2)) then some j else rnOf r id
/-- A name for a block that is not there: of a nil slice. -/
def nilKey : Nat := 2000000
abbrev nilId : Id := (nilKey, 0, 0)
/-- The other name of a block; lent ones keep theirs. -/
def rnAt (rn : Rn) (id : Id) : Option Id := bif Nat.ble lentKey id.1 then (bif id.1 == nilKey then none else some id) else rnOf rn id
def mOf (s : St) (j : Id) : Option D := bif j.1 == nilKey then some (.v (.agg ⟨[]⟩)) else s.m j
/-- A value with other names for its blocks. -/
def renD (rn : Rn) : Nat → D → Option D
  | 0, _ => none
  | n + 1, d =>
    match d with
    | .junk => some .junk
    | .mr id => (match rnAt rn id with | some j => (bif j.1 == nilKey then none else some (.mr j)) | none => none)
    | .obj (.mit id since seen last) => (match rnAt rn id with | some j => (bif j.1 == nilKey then none else some (.obj (.mit j since seen last))) | none => none)
    | .obj x => some (.obj x)
    | .v x => some (.v x)
    | .ptr id off => (match rnAt rn id with | some j => (bif j.1 == nilKey then none else some (.ptr j off)) | none => none)
    | .slc f sz id off len => (match rnAt rn id with | some j => (bif j.1 == nilKey then (bif off == 0 && len == 0 then some (.v (.slice none 0 0)) else none) else some (.slc f sz j off len)) | none => none)
    | .ref m c off => (match renD rn n c with | some c' => some (.ref m c' off) | none => none)
    | .row m sz c len => (match renD rn n c with | some c' => some (.row m sz c' len) | none => none)
    | .agg ds => (match mapO (renD rn n) ds with | some ds' => some (.agg ds') | none => none)
    | .tup ds => (match mapO (renD rn n) ds with | some ds' => some (.tup ds') | none => none)
    | .fn f a b => (match mapO (renD rn n) a with
      | some a' => (match mapO (renD rn n) b with | some b' => some (.fn f a' b') | none => none)
      | none => none)

def updL (l : List (Nat × D)) : Nat → D :=
  match l with
  | [] => fun _ => .junk
  | (i, d) :: r => upd (updL r) i d
def updML (l : List (Id × D)) : Id → Option D :=
  match l with
  | [] => fun _ => none
  | (i, d) :: r => updI (updML r) i (some d)
/-- The state in which some slots and some blocks are known. -/
def stOf (ls : List (Nat × D)) (ms : List (Id × D)) : St := ⟨updL ls, updML ms, fun _ => 1⟩
/-- The same for a function to which nothing is lent. -/
def oneS : Nat → Nat := fun i => bif i == lentKey then 7 else 1
def stOfS (ls : List (Nat × D)) (ms : List (Id × D)) : St := ⟨updL ls, updML ms, oneS⟩
def Holds (rn : Rn) (s : St) : List (Nat × D) → Prop
  | [] => True
  | (i, d) :: r => renD rn depth d = some (s.t i) ∧ Holds rn s r
def HoldsM (rn : Rn) (s : St) : List (Id × D) → Prop
  | [] => True
  | (i, d) :: r => (∃ j c, rnAt rn i = some j ∧ renD rn depth d = some c ∧ mOf s j = some c) ∧ HoldsM rn s r
def rnIds (rn : Rn) : List Id := (rn.map (·.2)).filter fun j => Nat.blt j.1 lentKey
def rnOk (rn : Rn) : Bool := distinct (rnIds rn) && rn.all fun p => p.1.2.1 == 0 && Nat.blt p.1.1 lentKey && (Nat.blt p.2.1 lentKey || p.2.1 == nilKey)

section
variable {w : World} {base : Nat} {loc : Loc} {rn : Rn}

theorem rnOf_mem {id j : Id} : ∀ {rn : Rn}, rnOf rn id = some j → (id, j) ∈ rn
  | [], h => by simp [rnOf] at h
  | (i, k) :: r, h => by
    simp only [rnOf] at h
    cases hc : (id.1 == i.1 && (id.2.1 == i.2.1 && id.2.2 == i.2.2)) <;> simp only [hc, cond_true, cond_false] at h
    · exact List.mem_cons_of_mem _ (rnOf_mem h)
    · simp only [Bool.and_eq_true, beq_iff_eq] at hc
      simp only [Option.some.injEq] at h
      subst h
      obtain ⟨x, y, z⟩ := id
      obtain ⟨x', y', z'⟩ := i
      simp only at hc
      rw [hc.1, hc.2.1, hc.2.2]
      simp

theorem rnIds_cons (a b : Id) (r : Rn) : rnIds ((a, b) :: r) = if b.1 < lentKey then b :: rnIds r else rnIds r := by
  unfold rnIds
  simp only [List.map_cons, List.filter_cons, blt_eq, decide_eq_true_eq]
theorem distinct_inj : ∀ {rn : Rn}, distinct (rnIds rn) = true → ∀ {i i' j : Id}, j.1 < lentKey → rnOf rn i = some j → rnOf rn i' = some j → i = i'
  | [], _, i, i', j, _, h, _ => by simp [rnOf] at h
  | (a, b) :: r, hd, i, i', j, hlt, h, h' => by
    have hd' : distinct (rnIds r) = true := by
      rw [rnIds_cons] at hd
      split at hd
      · simp only [distinct, Bool.and_eq_true] at hd; exact hd.2
      · exact hd
    have hnot : b.1 < lentKey → ∀ x, rnOf r x = some b → False := fun hb x hx => by
      rw [rnIds_cons, if_pos hb] at hd
      simp only [distinct, Bool.and_eq_true, Bool.not_eq_true'] at hd
      have := rnOf_mem hx
      have hm : b ∈ rnIds r := by
        unfold rnIds
        rw [List.mem_filter]
        exact ⟨List.mem_map.2 ⟨_, this, rfl⟩, by rw [blt_eq]; simpa using hb⟩
      have := idIn_iff.2 hm
      rw [hd.1] at this
      cases this
    have eqa : ∀ x : Id, (x.1 == a.1 && (x.2.1 == a.2.1 && x.2.2 == a.2.2)) = true → x = a := by
      intro x hx
      simp only [Bool.and_eq_true, beq_iff_eq] at hx
      obtain ⟨p, q, s⟩ := x
      obtain ⟨p', q', s'⟩ := a
      simp only at hx
      rw [hx.1, hx.2.1, hx.2.2]
    simp only [rnOf] at h h'
    cases hc : (i.1 == a.1 && (i.2.1 == a.2.1 && i.2.2 == a.2.2)) <;> cases hc' : (i'.1 == a.1 && (i'.2.1 == a.2.1 && i'.2.2 == a.2.2)) <;> simp only [hc, hc', cond_true, cond_false] at h h'
    · exact distinct_inj (rn := r) hd' hlt h h'
    · simp only [Option.some.injEq] at h'; subst h'; exact (hnot hlt _ h).elim
    · simp only [Option.some.injEq] at h; subst h; exact (hnot hlt _ h').elim
    · rw [eqa _ hc, eqa _ hc']

/-- Where the blocks lie, by their other names. -/
def locOf (loc : Loc) (rn : Rn) : Loc := fun id => bif Nat.ble lentKey id.1 then loc id else (match rnOf rn id with
  | some j => (bif j.1 == nilKey then some (none, 0) else loc j)
  | none => none)
theorem locOf_at {id j : Id} (h : rnAt rn id = some j) (hz : (j.1 == nilKey) = false) : locOf loc rn id = loc j := by
  unfold rnAt at h
  unfold locOf
  cases hc : Nat.ble lentKey id.1 <;> simp only [hc, cond_true, cond_false] at h ⊢
  · rw [h]; simp only [hz, cond_false]
  · cases hn : (id.1 == nilKey) <;> simp only [hn, cond_true, cond_false] at h
    · simp only [Option.some.injEq] at h; rw [h]
    · cases h
theorem locOf_nil {id j : Id} (h : rnAt rn id = some j) (hz : (j.1 == nilKey) = true) : locOf loc rn id = some (none, 0) := by
  unfold rnAt at h
  unfold locOf
  cases hc : Nat.ble lentKey id.1 <;> simp only [hc, cond_true, cond_false] at h ⊢
  · rw [h]; simp only [hz, cond_true]
  · cases hn : (id.1 == nilKey) <;> simp only [hn, cond_true, cond_false] at h
    · simp only [Option.some.injEq] at h; subst h; rw [hn] at hz; cases hz
    · cases h

theorem renD_sound : ∀ (n : Nat) (d d' : D) (y : Value), renD rn n d = some d' → Rep w base loc d' y → Rep w base (locOf loc rn) d y
  | 0, d, d', y, h, _ => by simp [renD] at h
  | n + 1, d, d', y, h, hr => by
    have ih := renD_sound n
    have hav : ∀ b, loc.avoids b → (locOf loc rn).avoids b := by
      intro b hv id k hk
      unfold locOf at hk
      cases hc : Nat.ble lentKey id.1 <;> simp only [hc, cond_true, cond_false] at hk
      · cases hj : rnOf rn id with
        | none => rw [hj] at hk; cases hk
        | some j =>
          rw [hj] at hk
          simp only at hk
          cases hz : (j.1 == nilKey) <;> simp only [hz, cond_true, cond_false] at hk
          · exact hv _ _ hk
          · simp at hk
      · exact hv _ _ hk
    have ihL : ∀ (ds ds' : List D) (vs : List Value), mapO (renD rn n) ds = some ds' → RepL w base loc ds' vs → RepL w base (locOf loc rn) ds vs := by
      intro ds
      induction ds with
      | nil => intro ds' vs hm hr; simp only [mapO, Option.some.injEq] at hm; subst hm; simpa only [RepL] using hr
      | cons x ds ihd =>
        intro ds' vs hm hr
        simp only [mapO] at hm
        split at hm
        · rename_i z hz
          split at hm
          · rename_i zs hzs
            simp only [Option.some.injEq] at hm
            subst hm
            simp only [RepL] at hr ⊢
            obtain ⟨u, us, h1, h2, h3⟩ := hr
            exact ⟨u, us, h1, ih _ _ _ hz h2, ihd _ _ hzs h3⟩
          · simp at hm
        · simp at hm
    cases d with
    | junk => simp only [renD, Option.some.injEq] at h; subst h; simp only [Rep]
    | obj x =>
      cases x with
      | mit id since seen last =>
        simp only [renD] at h
        split at h
        · rename_i j hj
          cases hz : (j.1 == nilKey) <;> simp only [hz, cond_true, cond_false] at h
          · simp only [Option.some.injEq] at h; subst h; simp [Rep] at hr
          · cases h
        · cases h
      | _ => simp only [renD, Option.some.injEq] at h; subst h; simp [Rep] at hr
    | mr id =>
      simp only [renD] at h
      split at h
      · rename_i j hj
        cases hz : (j.1 == nilKey) <;> simp only [hz, cond_true, cond_false] at h
        · simp only [Option.some.injEq] at h
          subst h
          simp only [Rep] at hr ⊢
          obtain ⟨b, k, h1, h2⟩ := hr
          exact ⟨b, k, by rw [locOf_at hj hz]; exact h1, h2⟩
        · cases h
      · cases h
    | v x => simp only [renD, Option.some.injEq] at h; subst h; simpa only [Rep] using hr
    | ptr id off =>
      simp only [renD] at h
      split at h
      · rename_i j hj
        cases hz : (j.1 == nilKey) <;> simp only [hz, cond_true, cond_false] at h
        · simp only [Option.some.injEq] at h
          subst h
          simp only [Rep] at hr ⊢
          obtain ⟨b, k, h1, h2⟩ := hr
          exact ⟨b, k, by rw [locOf_at hj hz]; exact h1, h2⟩
        · cases h
      · cases h
    | slc f sz id off len =>
      simp only [renD] at h
      split at h
      · rename_i j hj
        cases hz : (j.1 == nilKey) <;> simp only [hz, cond_true, cond_false] at h
        · simp only [Option.some.injEq] at h
          subst h
          simp only [Rep] at hr ⊢
          obtain ⟨a, cap, l, k, h1, h2, h3, h4⟩ := hr
          exact ⟨a, cap, l, k, h1, h2, by rw [locOf_at hj hz]; exact h3, h4⟩
        · cases hq : (off == 0 && len == 0) <;> simp only [hq, cond_true, cond_false] at h
          · cases h
          · simp only [Option.some.injEq] at h
            subst h
            simp only [Bool.and_eq_true, beq_iff_eq] at hq
            obtain ⟨rfl, rfl⟩ := hq
            simp only [Rep] at hr ⊢
            exact ⟨none, 0, none, 0, hr.1, Nat.le_refl _, by rw [locOf_nil hj hz], by simp, by simp, by simp⟩
      · cases h
    | ref m c off =>
      simp only [renD] at h
      split at h
      · rename_i c' hc
        simp only [Option.some.injEq] at h
        subst h
        simp only [Rep] at hr ⊢
        obtain ⟨b, o, xs, h1, h2, h3, h4, h5⟩ := hr
        exact ⟨b, o, xs, h1, h2, hav b h3, h4, ih _ _ _ hc h5⟩
      · cases h
    | row m sz c len =>
      simp only [renD] at h
      split at h
      · rename_i c' hc
        simp only [Option.some.injEq] at h
        subst h
        simp only [Rep] at hr ⊢
        obtain ⟨a, cap, xs, h1, h2, h3, h4, h5, hO⟩ := hr
        refine ⟨a, cap, xs, h1, h2, ih _ _ _ hc h3, h4, ?_, fun hm => ?_⟩
        rotate_left
        · rcases hO hm with hO | ⟨b, k, e, q1, q2, q3⟩
          · exact .inl hO
          · exact .inr ⟨b, k, e, q1, hav b q2, q3⟩
        rcases h5 with h5 | ⟨b, o, g1, g2, g3, g4⟩
        · exact .inl h5
        · exact .inr ⟨b, o, g1, g2, hav b g3, g4⟩
      · cases h
    | agg ds =>
      simp only [renD] at h
      split at h
      · rename_i ds' hds
        simp only [Option.some.injEq] at h
        subst h
        simp only [Rep] at hr ⊢
        obtain ⟨vs, h1, h2, h3⟩ := hr
        exact ⟨vs, h1, ihL _ _ _ hds h2, h3⟩
      · cases h
    | tup ds =>
      simp only [renD] at h
      split at h
      · rename_i ds' hds
        simp only [Option.some.injEq] at h
        subst h
        simp only [Rep] at hr ⊢
        obtain ⟨vs, h1, h2⟩ := hr
        exact ⟨vs, h1, ihL _ _ _ hds h2⟩
      · cases h
    | fn f a b =>
      simp only [renD] at h
      split at h
      · rename_i a' ha
        split at h
        · rename_i b' hb
          simp only [Option.some.injEq] at h
          subst h
          simp only [Rep] at hr ⊢
          obtain ⟨va, vb, h1, h2, h3⟩ := hr
          exact ⟨va, vb, h1, ihL _ _ _ ha h2, ihL _ _ _ hb h3⟩
        · cases h
      · cases h

theorem renD_obj {n : Nat} {c : D} {x : Ob} (h : renD rn n c = some (.obj x)) : ∃ y, c = .obj y ∧ ∀ {b : Nat}, ORep w loc x b → ORep w (locOf loc rn) y b := by
  cases n with
  | zero => simp [renD] at h
  | succ n =>
    cases c with
    | obj y =>
      refine ⟨y, rfl, fun {b} hb => ?_⟩
      cases y with
      | mit id since seen last =>
        simp only [renD] at h
        split at h
        · rename_i j hj
          cases hz : (j.1 == nilKey) <;> simp only [hz, cond_true, cond_false] at h
          · simp only [Option.some.injEq, D.obj.injEq] at h
            subst h
            obtain ⟨mb, k, h1, h2⟩ := hb
            exact ⟨mb, k, by rw [locOf_at hj hz]; exact h1, h2⟩
          · cases h
        · cases h
      | places => simp only [renD, Option.some.injEq, D.obj.injEq] at h; subst h; exact hb
      | map pk kvs => simp only [renD, Option.some.injEq, D.obj.injEq] at h; subst h; exact hb
      | sit s pos => simp only [renD, Option.some.injEq, D.obj.injEq] at h; subst h; exact hb
    | slc f sz id off len =>
      simp only [renD] at h
      split at h
      · rename_i j hj
        cases hz : (j.1 == nilKey) <;> simp only [hz, cond_true, cond_false] at h
        · cases h
        · cases hb : (off == 0 && len == 0) <;> simp only [hb, cond_true, cond_false] at h <;> cases h
      · cases h
    | ptr id off =>
      simp only [renD] at h
      split at h
      · rename_i j hj
        cases hz : (j.1 == nilKey) <;> simp only [hz, cond_true, cond_false] at h <;> cases h
      · cases h
    | mr id =>
      simp only [renD] at h
      split at h
      · rename_i j hj
        cases hz : (j.1 == nilKey) <;> simp only [hz, cond_true, cond_false] at h <;> cases h
      · cases h
    | junk => simp [renD] at h
    | v y => simp [renD] at h
    | ref m c off => simp only [renD] at h; split at h <;> cases h
    | row m sz c len => simp only [renD] at h; split at h <;> cases h
    | agg ds => simp only [renD] at h; split at h <;> cases h
    | tup ds => simp only [renD] at h; split at h <;> cases h
    | fn f a b =>
      simp only [renD] at h
      split at h
      · split at h <;> cases h
      · cases h

theorem updL_get {s : St} : ∀ {l : List (Nat × D)}, Holds rn s l → ∀ i, updL l i = .junk ∨ renD rn depth (updL l i) = some (s.t i)
  | [], _, i => .inl rfl
  | (j, d) :: r, h, i => by
    simp only [updL]
    rw [upd_eq]
    split
    · rename_i e; subst e; exact .inr h.1
    · exact updL_get h.2 i
theorem updML_get {s : St} : ∀ {l : List (Id × D)}, HoldsM rn s l → ∀ i c, updML l i = some c → ∃ j c', rnAt rn i = some j ∧ renD rn depth c = some c' ∧ mOf s j = some c'
  | [], _, i, c, h => by simp [updML] at h
  | (j, d) :: r, hh, i, c, h => by
    simp only [updML] at h
    rw [updI_eq] at h
    split at h
    · rename_i e
      simp only [Option.some.injEq] at h
      subst h; subst e
      exact hh.1
    · exact updML_get hh.2 i c h

theorem sim_ofC {s : St} {ls : List (Nat × D)} {ms : List (Id × D)} (cc : Nat → Nat) (hc1 : ∀ i, i < lentKey → cc i = 1) (hc7 : cc lentKey = 7 → s.c lentKey = 7) (hok : rnOk rn = true) (h1 : Holds rn s ls) (h2 : HoldsM rn s ms) : Sim s ⟨updL ls, updML ms, cc⟩ := by
  intro P T n w0 bs l0 a w loc h
  simp only [rnOk, Bool.and_eq_true] at hok
  obtain ⟨hd, hall⟩ := hok
  have hrow : ∀ i j, rnOf rn i = some j → i.2.1 = 0 ∧ i.1 < lentKey ∧ (j.1 < lentKey ∨ j.1 = nilKey) := by
    intro i j hij
    have := List.all_eq_true.1 hall _ (rnOf_mem hij)
    simp only [Bool.and_eq_true, beq_iff_eq, blt_eq, decide_eq_true_iff, Bool.or_eq_true] at this
    exact ⟨this.1.1, this.1.2, this.2⟩
  have hloc : ∀ i l, i.1 < lentKey → locOf loc rn i = some l → ∃ j, rnOf rn i = some j ∧ ((j.1 = nilKey ∧ l = (none, 0)) ∨ (j.1 < lentKey ∧ loc j = some l)) := by
    intro i l hlt hl
    unfold locOf at hl
    have hc : Nat.ble lentKey i.1 = false := by rw [Bool.eq_false_iff]; intro e; have := Nat.le_of_ble_eq_true e; omega
    rw [hc] at hl
    simp only [cond_false] at hl
    cases hj : rnOf rn i with
    | none => rw [hj] at hl; cases hl
    | some j =>
      rw [hj] at hl
      simp only at hl
      cases hz : (j.1 == nilKey) <;> simp only [hz, cond_true, cond_false] at hl
      · refine ⟨j, rfl, .inr ⟨?_, hl⟩⟩
        rcases (hrow i j hj).2.2 with h | h
        · exact h
        · rw [beq_eq_false_iff_ne] at hz; exact (hz h).elim
      · exact ⟨j, rfl, .inl ⟨by simpa using hz, by simpa using hl.symm⟩⟩
  have hhigh : ∀ i, lentKey ≤ i.1 → locOf loc rn i = loc i := by
    intro i hi
    unfold locOf
    rw [ble_true hi]; rfl
  have hat : ∀ i j, rnAt rn i = some j → (lentKey ≤ i.1 ∧ j = i) ∨ (i.1 < lentKey ∧ rnOf rn i = some j) := by
    intro i j hj
    unfold rnAt at hj
    cases hc : Nat.ble lentKey i.1 <;> simp only [hc, cond_true, cond_false] at hj
    · refine .inr ⟨?_, hj⟩
      rcases Nat.lt_or_ge i.1 lentKey with h | h
      · exact h
      · rw [ble_true h] at hc; cases hc
    · cases hn : (i.1 == nilKey) <;> simp only [hn, cond_true, cond_false] at hj
      · simp only [Option.some.injEq] at hj; exact .inl ⟨Nat.le_of_ble_eq_true hc, hj.symm⟩
      · cases hj
  refine ⟨locOf loc rn, h.types, h.low, (fun e => h.solo (hc7 e)), h.size, h.small, h.defers, h.same, fun i => ?_, fun id c hc => ?_, fun id l hl hk => ?_, fun id b k hl => ?_, fun id c hc => ?_, fun id hid => ?_, fun id id' c c' b k k' hc hc' hl hl' => ?_, h.glob.loc fun g hv id k hl => ?_⟩
  · show Rep w bs (locOf loc rn) (updL ls i) (a.tmps.getD i undef)
    rcases updL_get h1 i with hj | hj
    · rw [hj]; simp [Rep]
    · exact renD_sound _ _ _ _ hj (h.tmp i)
  · obtain ⟨j, c', g1, g2, g3⟩ := updML_get h2 id c hc
    unfold mOf at g3
    cases hz : (j.1 == nilKey) <;> simp only [hz, cond_true, cond_false] at g3
    · obtain ⟨l, xs, k1, k23⟩ := h.mem j c' g3
      refine ⟨l, xs, by rw [locOf_at g1 hz]; exact k1, ?_⟩
      rcases k23 with ⟨k2, k3⟩ | ⟨x, b, rfl, k2, k3, k4⟩
      · exact .inl ⟨renD_sound _ _ _ _ g2 k2, k3⟩
      · obtain ⟨y, rfl, hy⟩ := renD_obj g2
        exact .inr ⟨y, b, rfl, k2, k3, hy k4⟩
    · simp only [Option.some.injEq] at g3
      subst g3
      refine ⟨none, [], by rw [locOf_nil g1 hz]; rfl, .inl ⟨renD_sound _ _ _ _ g2 ?_, rfl⟩⟩
      simp only [Rep]
      exact ⟨trivial, rfl⟩
  · obtain ⟨j, g1, _⟩ := hloc id l hk hl
    have := (hrow _ _ g1).1
    show id.2.1 < cc id.1
    rw [hc1 _ hk]
    omega
  · rcases Nat.lt_or_ge id.1 lentKey with hlt | hge
    · obtain ⟨j, _, g2 | g2⟩ := hloc id _ hlt hl
      · simp at g2
      · have := h.range _ _ _ g2.2
        exact ⟨fun _ => this.1 (Nat.lt_trans g2.1 (by decide)), this.2⟩
    · rw [hhigh _ hge] at hl
      exact h.range _ _ _ hl
  · obtain ⟨j, d, g1, _, g3⟩ := updML_get h2 id c hc
    rcases hat _ _ g1 with ⟨q1, rfl⟩ | ⟨q1, _⟩
    · unfold mOf at g3
      cases hz : (j.1 == nilKey) <;> simp only [hz, cond_true, cond_false] at g3
      · exact h.live _ _ g3
      · simp only [beq_iff_eq] at hz; rw [hz]; decide
    · exact Nat.lt_trans q1 (by decide)
  · rw [hhigh _ hid]; exact h.lent id hid
  · obtain ⟨j, d, g1, _, g3⟩ := updML_get h2 id c hc
    obtain ⟨j', d', g1', _, g3'⟩ := updML_get h2 id' c' hc'
    have res : ∀ (id j : Id) (d : D) (k : Nat), rnAt rn id = some j → mOf s j = some d → locOf loc rn id = some (some b, k) → s.m j = some d ∧ loc j = some (some b, k) ∧ ((lentKey ≤ id.1 ∧ j = id) ∨ (id.1 < lentKey ∧ j.1 < lentKey ∧ rnOf rn id = some j)) := by
      intro id j d k g1 g3 hl
      cases hz : (j.1 == nilKey)
      · rw [locOf_at g1 hz] at hl
        unfold mOf at g3
        rw [hz] at g3
        refine ⟨g3, hl, ?_⟩
        rcases hat _ _ g1 with q | ⟨q1, q2⟩
        · exact .inl q
        · refine .inr ⟨q1, ?_, q2⟩
          rcases (hrow _ _ q2).2.2 with q | q
          · exact q
          · rw [beq_eq_false_iff_ne] at hz; exact (hz q).elim
      · rw [locOf_nil g1 hz] at hl; simp at hl
    obtain ⟨p1, p2, p3⟩ := res id j d k g1 g3 hl
    obtain ⟨p1', p2', p3'⟩ := res id' j' d' k' g1' g3' hl'
    have := h.inj _ _ _ _ _ _ _ p1 p1' p2 p2'
    subst this
    rcases p3 with ⟨q1, rfl⟩ | ⟨q1, q2, q3⟩ <;> rcases p3' with ⟨q1', q'⟩ | ⟨q1', q2', q3'⟩
    · exact q'
    · omega
    · subst q'; omega
    · exact distinct_inj hd q2 q3 q3'
  · rcases Nat.lt_or_ge id.1 lentKey with hlt | hge
    · obtain ⟨j, _, g2 | g2⟩ := hloc id _ hlt hl
      · simp at g2
      · exact hv _ _ g2.2
    · rw [hhigh _ hge] at hl
      exact hv _ _ hl
theorem sim_of {s : St} {ls : List (Nat × D)} {ms : List (Id × D)} (hok : rnOk rn = true) (h1 : Holds rn s ls) (h2 : HoldsM rn s ms) : Sim s (stOf ls ms) :=
  sim_ofC (fun _ => 1) (fun _ _ => rfl) (fun e => by simp at e) hok h1 h2
theorem sim_ofS {s : St} {ls : List (Nat × D)} {ms : List (Id × D)} (hs : s.c lentKey = 7) (hok : rnOk rn = true) (h1 : Holds rn s ls) (h2 : HoldsM rn s ms) : Sim s (stOfS ls ms) :=
  sim_ofC oneS (fun i hi => by unfold oneS; have : (i == lentKey) = false := by simp; omega
                               rw [this]; rfl) (fun _ => hs) hok h1 h2
end
theorem Sim.trans {s s2 s3 : St} (h : Sim s s2) (h' : Sim s2 s3) : Sim s s3 := fun P T n w0 bs l0 a w loc hi => by
  obtain ⟨l, h1⟩ := h _ _ _ _ _ _ _ _ _ hi
  exact h' _ _ _ _ _ _ _ _ _ h1

/-- A map whose keys are places: no more is told of it. -/
theorem places_sim {s : St} {id : Id} {kvs : List ((Int × Int) × Value)} (hm : s.m id = some (.obj (.map true kvs))) : Sim s { s with m := updI s.m id (some (.obj .places)) } := by
  intro P T n w0 bs l0 a w loc h
  have hl : ∀ j c, updI s.m id (some (.obj .places)) j = some c → ∃ c', s.m j = some c' := by
    intro j c hj
    rcases updI_obj j c hj with ⟨rfl, _⟩ | ⟨_, q⟩
    · exact ⟨_, hm⟩
    · exact ⟨_, q⟩
  refine ⟨loc, h.types, h.low, h.solo, h.size, h.small, h.defers, h.same, h.tmp, fun j c hc => ?_, h.cnt, h.range, fun j c hc => ?_, h.lent, fun j j' c c' b k k' hc hc' hj hj' => ?_, h.glob⟩
  · rcases updI_obj j c hc with ⟨rfl, rfl⟩ | ⟨_, q⟩
    · obtain ⟨b, q1, q2, q3⟩ := h.objAt hm
      refine ⟨some b, [], q1, .inr ⟨_, b, rfl, rfl, rfl, ents true kvs, _, q2, fun e he => ?_⟩⟩
      obtain ⟨k', hk⟩ := entsF_keys kvs 0 e (by simpa [ents] using he)
      exact ⟨k'.1, k'.2, by rw [hk]; rfl⟩
    · exact h.mem j c q
  · obtain ⟨c', q⟩ := hl j c hc; exact h.live _ _ q
  · obtain ⟨c1, q1⟩ := hl j c hc
    obtain ⟨c2, q2⟩ := hl j' c' hc'
    exact h.inj _ _ _ _ _ _ _ q1 q2 hj hj'


/-- What a round hands on. -/
def Next {α : Type} (ls : α → List (Nat × D)) (ms : α → List (Id × D)) (ok : α → Prop) (μ : α → Nat) (x : α) (s : St) : Prop :=
  ∃ y : α, μ y < μ x ∧ ok y ∧ Sim s (stOf (ls y) (ms y))

/-- A LOOP: 'ls' tells slots, 'ms' blocks, of some ghost 'x'; a measure. -/
theorem loop_rule {P : Program} {T : Types} {c : Code} {Q : Ex → St → Prop} {s : St} {α : Type} (ls : α → List (Nat × D)) (ms : α → List (Id × D)) (ok : α → Prop) (μ : α → Nat) (x0 : α)
    (h0 : ok x0) (hs : Sim s (stOf (ls x0) (ms x0)))
    (round : ∀ x, ok x → wp P T c (Ex.seq (Next ls ms ok μ x) Q) (stOf (ls x) (ms x))) : wp P T (.loop c) Q s := by
  refine ⟨fun k s => ∃ x, k = μ x ∧ ok x ∧ s = stOf (ls x) (ms x), ⟨μ x0, _, hs, x0, rfl, h0, rfl⟩, ?_⟩
  rintro k s ⟨x, rfl, hok, rfl⟩
  have conv : Next ls ms ok μ x = fun s' => ∃ k' s2, k' < μ x ∧ Sim s' s2 ∧ ∃ x_1, k' = μ x_1 ∧ ok x_1 ∧ s2 = stOf (ls x_1) (ms x_1) := by
    funext s'
    simp only [Next, eq_iff_iff]
    constructor
    · rintro ⟨y, h1, h2, h3⟩; exact ⟨_, _, h1, h3, y, rfl, h2, rfl⟩
    · rintro ⟨_, _, h1, h3, y, rfl, h2, rfl⟩; exact ⟨y, h1, h2, h3⟩
  have := round x hok
  rw [conv] at this
  exact this

/-- The same for a function to which nothing is lent. -/
def NextS {α : Type} (ls : α → List (Nat × D)) (ms : α → List (Id × D)) (ok : α → Prop) (μ : α → Nat) (x : α) (s : St) : Prop :=
  ∃ y : α, μ y < μ x ∧ ok y ∧ Sim s (stOfS (ls y) (ms y))
theorem loop_ruleS {P : Program} {T : Types} {c : Code} {Q : Ex → St → Prop} {s : St} {α : Type} (ls : α → List (Nat × D)) (ms : α → List (Id × D)) (ok : α → Prop) (μ : α → Nat) (x0 : α)
    (h0 : ok x0) (hs : Sim s (stOfS (ls x0) (ms x0)))
    (round : ∀ x, ok x → wp P T c (Ex.seq (NextS ls ms ok μ x) Q) (stOfS (ls x) (ms x))) : wp P T (.loop c) Q s := by
  refine ⟨fun k s => ∃ x, k = μ x ∧ ok x ∧ s = stOfS (ls x) (ms x), ⟨μ x0, _, hs, x0, rfl, h0, rfl⟩, ?_⟩
  rintro k s ⟨x, rfl, hok, rfl⟩
  have conv : NextS ls ms ok μ x = fun s' => ∃ k' s2, k' < μ x ∧ Sim s' s2 ∧ ∃ x_1, k' = μ x_1 ∧ ok x_1 ∧ s2 = stOfS (ls x_1) (ms x_1) := by
    funext s'
    simp only [NextS, eq_iff_iff]
    constructor
    · rintro ⟨y, h1, h2, h3⟩; exact ⟨_, _, h1, h3, y, rfl, h2, rfl⟩
    · rintro ⟨_, _, h1, h3, y, rfl, h2, rfl⟩; exact ⟨y, h1, h2, h3⟩
  have := round x hok
  rw [conv] at this
  exact this

theorem vint {k : IntKind} {a b : Int} (h : a = b) : D.v (.int k a) = D.v (.int k b) := by rw [h]
end Go.V
/- Small words for the walks: a branch on a truth value, a call by equal arguments. -/
set_option linter.unusedVariables false
set_option linter.unusedSimpArgs false
set_option linter.unusedSectionVars false
namespace Go.V
variable [Globs]
theorem bsplit {b : Bool} {P Q : Prop} (h0 : b = false → Q) (h1 : b = true → P) : (match (generalizing := false) b with | true => P | false => Q) := by
  cases b
  · exact h0 rfl
  · exact h1 rfl
theorem bsplitT {b : Bool} {P Q : Prop} (h1 : b = true → P) (h0 : b = false → Q) : (match (generalizing := false) b with | true => P | false => Q) := bsplit h0 h1
theorem Sat.of_eq {P : Program} {g : FuncId} {args args' : List D} {res : D} (h : Sat P g args res) (e : args' = args) : Sat P g args' res := by rw [e]; exact h
theorem Sat.res_eq {P : Program} {g : FuncId} {args : List D} {res res' : D} (h : Sat P g args res) (e : res = res') : Sat P g args res' := by rw [← e]; exact h
theorem take_full {α : Type} {l : List α} {n : Nat} (h : l.length ≤ n) : l.take n = l := List.take_of_length_le h
theorem ceq {a b : D} {l m : List D} (h : a = b) (h2 : l = m) : a :: l = b :: m := by rw [h, h2]
theorem vfull {l : List Value} {n : Nat} (h : l.length ≤ n) : D.v (.agg ⟨(l.drop 0).take n⟩) = D.v (.agg ⟨l⟩) := by rw [List.drop_zero, take_full h]
theorem rfull {l : List Value} {n sz k : Nat} {m : Bool} (h : l.length ≤ n) : D.row m sz (.v (.agg ⟨(l.drop 0).take n⟩)) k = D.row m sz (.v (.agg ⟨l⟩)) k := by rw [List.drop_zero, take_full h]
theorem vintS {k : IntKind} {a b : Int} (h : a = b) : some (D.v (.int k a)) = some (D.v (.int k b)) := by rw [h]
theorem vslcS {f : Bool} {sz : Nat} {id : Id} {o l l' : Nat} (h : l = l') : some (D.slc f sz id o l) = some (D.slc f sz id o l') := by rw [h]
theorem vptrS {id : Id} {o o' : Nat} (h : o = o') : some (D.ptr id o) = some (D.ptr id o') := by rw [h]
theorem vstrS {a b : ByteArray} (h : a = b) : some (D.v (.string a)) = some (D.v (.string b)) := by rw [h]
theorem vboolS {a b : Bool} (h : a = b) : some (D.v (.bool a)) = some (D.v (.bool b)) := by rw [h]
end Go.V
/- The contract of a function that writes to blocks that are lent to it, from the weakest precondition of its body. -/
set_option linter.unusedVariables false
set_option linter.unusedSimpArgs false
set_option linter.unusedSectionVars false
namespace Go.V
variable [Globs]

/-- The state at the begin of a function to which blocks are lent. -/
def entryM (args ms : List D) : St := { t := fun i => args.getD i .junk, m := lentM ms, c := fun _ => 0 }
/-- The names behind the call: lent blocks keep theirs, some of the call's own are the new ones. -/
def outF (ro : List Id) (id : Id) : Option Id := bif Nat.ble lentKey id.1 then some id else (match findId ro id 0 with | some j => some (0, 0, j) | none => none)
def lentOk (m : Id → Option D) (f : Id → Option Id) : Nat → List (Option D) → Prop
  | _, [] => True
  | k, none :: r => lentOk m f (k + 1) r
  | k, some c :: r => (∃ c0, m (lentId k) = some c0 ∧ mapD true f depth c0 = some c) ∧ lentOk m f (k + 1) r
def newC (m : Id → Option D) (f : Id → Option Id) (id : Id) : Option D := match m id with | some c => mapD true f depth c | none => none
def finQM (T : Types) (rs : List ResultVar) (res : D) (ms' : List (Option D)) (news : List D) (s : St) : Prop :=
  resK T s rs fun ds => ∃ (ro : List Id) (ds' : List D), distinctIds ro = true ∧ (ro.all fun id => Nat.blt id.1 lentKey) = true ∧ mapO (mapD true (outF ro) depth) ds = some ds' ∧ res = one' ds' ∧
    lentOk s.m (outF ro) 0 ms' ∧ mapO (newC s.m (outF ro)) ro = some news
def bodyQM (T : Types) (rs : List ResultVar) (res : D) (ms' : List (Option D)) (news : List D) : Ex → St → Prop
  | .normal, s => finQM T rs res ms' news s
  | .ret, s => finQM T rs res ms' news s
  | .exit _, _ => False

theorem lentOk_get {m : Id → Option D} {f : Id → Option Id} : ∀ {ms : List (Option D)} {k0 : Nat}, lentOk m f k0 ms → ∀ {k : Nat} {c : D}, ms[k]? = some (some c) → ∃ c0, m (lentId (k0 + k)) = some c0 ∧ mapD true f depth c0 = some c
  | [], k0, _, k, c, h => by simp at h
  | none :: r, k0, hl, k, c, h => by
    cases k with
    | zero => simp at h
    | succ k =>
      have := lentOk_get (ms := r) hl (k := k) (by simpa using h)
      rw [show k0 + (k + 1) = k0 + 1 + k by omega]
      exact this
  | some x :: r, k0, hl, k, c, h => by
    cases k with
    | zero => simp at h; subst h; exact hl.1
    | succ k =>
      have := lentOk_get (ms := r) hl.2 (k := k) (by simpa using h)
      rw [show k0 + (k + 1) = k0 + 1 + k by omega]
      exact this
theorem rep_one {w : World} {base : Nat} {loc : Loc} : ∀ {ds : List D} {vs : List Value}, RepL w base loc ds vs → Rep w base loc (one' ds) (joinV vs)
  | [], vs, h => by simp only [RepL] at h; subst h; simp [one', joinV, Rep, RepL]
  | [d], vs, h => by
    simp only [RepL] at h
    obtain ⟨y, ys, rfl, h1, rfl⟩ := h
    exact h1
  | d :: e :: r, vs, h => by
    have hl := h.length
    match vs, h, hl with
    | [], _, hl => simp at hl
    | [v], _, hl => simp at hl
    | v :: v' :: vs', h, _ => simp only [one']; rw [Rep]; exact ⟨_, rfl, h⟩

section
variable {P : Program} {T : Types}

/-- THE CONTRACT, FROM THE BODY. -/
theorem satB_of_wp {low : Bool} (hlow : low = false ∨ ∀ t i, T t = some i → ∀ k e, i.u ≠ .map k e) (hm : P.follows .mixedOrders = true) (hT : TOk P T) {g : FuncId} {fn : Func} {c : Code} {args ms : List D} {res : D} {ms' : List (Option D)} {news : List D} (hf : P.funcs[g]? = some fn) (hb : fn.body = some c)
    (hname : (fn.name == "runtime.NumGoroutine") = false) {k : Nat} (hk : fn.ntmps = k) (hlen : Nat.ble args.length k = true) (hsmall : Nat.ble k lentKey = true) {rs : Array ResultVar} (hrs : fn.results = rs)
    (hcode : codeOk k c = true) (h : wp P T c (bodyQM T rs.toList res ms' news) (entryM args ms)) : SatB low P g args ms res ms' news := by
  refine ⟨⟨fn, c, hf, hb, hname⟩, fun w vs l0 bs hbs hbl hgl hlt hr => ?_⟩
  have hal := hr.length
  have hlen' := Nat.le_of_ble_eq_true hlen
  refine calls_of_wp hf hb ?_
  have hinv : Inv P T k w bs l0 (entryM args ms) { tmps := ⟨vs⟩ ++ Array.replicate (fn.ntmps - (⟨vs⟩ : Array Value).size) undef, defers := [] } w l0 := by
    refine ⟨hT, ⟨hbs, hlow.imp hbl id, hgl.lt⟩, (fun e => by simp [entryM] at e), by simp [hk]; omega, Nat.le_of_ble_eq_true hsmall, rfl, ⟨rfl, rfl, rfl, Nat.le_refl _, fun _ _ _ => rfl, fun b k e fr hk => ⟨k, e, fr, hk, Nat.le_refl _⟩⟩, fun i => ?_, fun id c hc => (let ⟨l, xs, g1, g2, g3⟩ := hlt.mem id c hc; ⟨l, xs, g1, .inl ⟨g2, g3⟩⟩),
      fun id l hl hk => ?_, fun id b k hl => ⟨fun hg => .inr ⟨id, k, hlt.dom _ _ hl, hg, hl⟩, hlt.range _ _ _ hl⟩, fun id c hc => ?_, fun _ _ => rfl, hlt.inj, hgl⟩
    · simp only [entryM]
      rw [List.getD_eq_getElem?_getD]
      cases hd : args[i]? with
      | none => simp [Rep]
      | some d =>
        obtain ⟨y, h1, h2⟩ := hr.get i d hd
        have hltv : i < vs.length := (List.getElem?_eq_some_iff.1 h1).1
        have : (({ tmps := (⟨vs⟩ : Array Value) ++ Array.replicate (fn.ntmps - (⟨vs⟩ : Array Value).size) undef, defers := [] } : Act).tmps.getD i undef) = y := by
          rw [Array.getD_eq_getD_getElem?, Array.getElem?_append_left (by simpa using hltv)]
          simp [h1]
        rw [this]
        exact h2
    · have := hlt.dom _ _ hl; omega
    · obtain ⟨_, _, _, h3⟩ := lentM_some hc; exact h3
  refine wp_sound hm c hcode _ _ _ _ _ _ h hinv ?_
  intro e x s' a' w' loc' he hq hi
  have fin : finQM T rs.toList res ms' news s' → a'.defers = [] ∧ ∃ v, (results fn a'.tmps).run P w' = .ok v w' ∧ (∃ y loc, Ending.returned v = .returned y ∧ Back w w' bs l0 res ms' news y loc) := by
    intro hq
    obtain ⟨ds, vs', ⟨ro, ds', g1, g2, g3, rfl, g5, g6⟩, h3, h4⟩ := resK_sound hi rs.toList _ hq
    have hlow : ∀ (j : Nat) (id : Id), ro[j]? = some id → id.1 < lentKey := by
      intro j id hj
      have := List.all_eq_true.1 g2 _ (List.mem_of_getElem? hj)
      rw [blt_eq] at this
      simpa using this
    let locr : Loc := fun id => bif Nat.ble lentKey id.1 then loc' id else (if id.1 = 0 ∧ id.2.1 = 0 then (match ro[id.2.2]? with | some i => loc' i | none => none) else none)
    have hhi : ∀ id : Id, lentKey ≤ id.1 → locr id = loc' id := by
      intro id hid
      simp only [locr]
      rw [ble_true hid]; rfl
    have hnw : ∀ (j : Nat) (id : Id), ro[j]? = some id → locr (0, 0, j) = loc' id := by
      intro j id hj
      have h0 : Nat.ble lentKey 0 = false := by decide
      simp only [locr, h0, cond_false, and_self, if_true, hj]
    have hcase : ∀ id l, locr id = some l → (lentKey ≤ id.1 ∧ loc' id = some l) ∨ (id.1 < lentKey ∧ ∃ i, id = (0, 0, id.2.2) ∧ ro[id.2.2]? = some i ∧ loc' i = some l) := by
      intro id l hl
      rcases Nat.lt_or_ge id.1 lentKey with hlt | hge
      · right
        simp only [locr] at hl
        have hc : Nat.ble lentKey id.1 = false := by rw [Bool.eq_false_iff]; intro e; have := Nat.le_of_ble_eq_true e; omega
        rw [hc] at hl
        simp only [cond_false] at hl
        split at hl
        · rename_i h0
          split at hl
          · rename_i i hi
            obtain ⟨x, y, z⟩ := id
            simp only at h0
            exact ⟨hlt, i, by rw [h0.1, h0.2], hi, hl⟩
          · cases hl
        · cases hl
      · rw [hhi id hge] at hl; exact .inl ⟨hge, hl⟩
    have hsub : ∀ b, loc'.avoids b → locr.avoids b := by
      intro b hv id n hl
      rcases hcase id _ hl with ⟨_, q⟩ | ⟨_, i, _, _, q⟩
      · exact hv _ _ q
      · exact hv _ _ q
    have hf2 : ∀ id id' l, outF ro id = some id' → loc' id = some l → locr id' = some l := by
      intro id id' l ho hl
      unfold outF at ho
      cases hc : Nat.ble lentKey id.1 <;> simp only [hc, cond_true, cond_false] at ho
      · split at ho
        · rename_i j hj
          simp only [Option.some.injEq] at ho
          subst ho
          obtain ⟨_, q⟩ := findId_some hj
          rw [Nat.sub_zero] at q
          rw [hnw _ _ q]; exact hl
        · cases ho
      · simp only [Option.some.injEq] at ho
        subst ho
        rw [hhi _ (Nat.le_of_ble_eq_true hc)]; exact hl
    have hmap : ∀ d d' y, mapD true (outF ro) depth d = some d' → Rep w' bs loc' d y → Rep w' bs locr d' y :=
      fun d d' y h1 h2 => mapD_sound hf2 hsub (fun _ => Nat.le_refl _) depth d d' y h1 h2
    have hlenN : ∀ (j : Nat) (id : Id), ro[j]? = some id → j < news.length := by
      intro j id hj
      obtain ⟨y, hy, _⟩ := (mapO_getO g6 j).1 _ hj
      exact (List.getElem?_eq_some_iff.1 hy).1
    have hcont : ∀ id c, outM ms' news id = some c → ∃ i c0, s'.m i = some c0 ∧ mapD true (outF ro) depth c0 = some c ∧ locr id = loc' i ∧ ((lentKey ≤ id.1 ∧ i = id) ∨ (id.1 < lentKey ∧ id = (0, 0, id.2.2) ∧ ro[id.2.2]? = some i)) := by
      intro id c hc
      rcases outM_some hc with ⟨kk, rfl, q1, q2⟩ | ⟨j, rfl, q1⟩
      · obtain ⟨c0, r1, r2⟩ := lentOk_get g5 q1
        rw [Nat.zero_add] at r1
        exact ⟨_, c0, r1, r2, hhi _ (by simp [lentId]), .inl ⟨by simp [lentId], rfl⟩⟩
      · obtain ⟨i, r1, r2⟩ := (mapO_getO g6 j).2 _ q1
        unfold newC at r2
        split at r2
        · rename_i c0 hc0
          exact ⟨i, c0, hc0, r2, hnw _ _ r1, .inr ⟨by show 0 < lentKey; decide, rfl, r1⟩⟩
        · cases r2
    refine ⟨hi.defers, _, run_results (by rw [hrs]; exact h4), _, locr, rfl, hi.same, rep_one (mapO_rep hmap g3 h3), ?_, ?_, ?_, ?_, ?_⟩
    · intro id hid
      rw [hhi id hid]; exact hi.lent id hid
    · intro id l hl hlt'
      rcases hcase id _ hl with ⟨q, _⟩ | ⟨_, i, q1, q2, _⟩
      · omega
      · refine ⟨by rw [q1], by rw [q1], hlenN _ _ q2⟩
    · intro id b n hl hlt'
      rcases hcase id _ hl with ⟨q, _⟩ | ⟨_, i, q1, q2, q3⟩
      · omega
      · have := hi.range _ _ _ q3
        exact ⟨this.1 (Nat.lt_trans (hlow _ _ q2) (by decide)), this.2⟩
    · intro id c hc
      obtain ⟨i, c0, q1, q2, q3, _⟩ := hcont id c hc
      obtain ⟨l, xs, r1, r23⟩ := hi.mem i c0 q1
      obtain ⟨r2, r3⟩ := r23.cells (by rintro z rfl; simp [mapD, depth] at q2)
      exact ⟨l, xs, q3.trans r1, hmap _ _ _ q2 r2, r3⟩
    · intro id id' c c' b n n' hc hc' hl hl'
      obtain ⟨i, c0, q1, q2, q3, q4⟩ := hcont id c hc
      obtain ⟨i', c0', q1', q2', q3', q4'⟩ := hcont id' c' hc'
      rw [q3] at hl
      rw [q3'] at hl'
      have := hi.inj _ _ _ _ _ _ _ q1 q1' hl hl'
      subst this
      rcases q4 with ⟨r1, rfl⟩ | ⟨r1, r2, r3⟩ <;> rcases q4' with ⟨r1', r'⟩ | ⟨r1', r2', r3'⟩
      · exact r'
      · have := hlow _ _ r3'; omega
      · subst r'; have := hlow _ _ r3; omega
      · have := distinctIds_get g1 r3 r3'
        rw [r2, r2', this]
  cases e with
  | normal => cases he; exact fin hq
  | ret => cases he; exact fin hq
  | exit id => cases he; exact hq.elim
  | _ => cases he
theorem satM_of_wp (hm : P.follows .mixedOrders = true) (hT : TOk P T) {g : FuncId} {fn : Func} {c : Code} {args ms : List D} {res : D} {ms' : List (Option D)} {news : List D} (hf : P.funcs[g]? = some fn) (hb : fn.body = some c)
    (hname : (fn.name == "runtime.NumGoroutine") = false) {k : Nat} (hk : fn.ntmps = k) (hlen : Nat.ble args.length k = true) (hsmall : Nat.ble k lentKey = true) {rs : Array ResultVar} (hrs : fn.results = rs)
    (hcode : codeOk k c = true) (h : wp P T c (bodyQM T rs.toList res ms' news) (entryM args ms)) : SatM P g args ms res ms' news :=
  satB_of_wp (.inl rfl) hm hT hf hb hname hk hlen hsmall hrs hcode h
/-- Types but for maps. -/
def noMaps (T : Types) : Types := fun t => match T t with | some ⟨.map _ _, _, _, _⟩ => none | x => x
theorem noMaps_ok (hT : TOk P T) : TOk P (noMaps T) := by
  intro t i h
  unfold noMaps at h
  split at h
  · cases h
  · exact hT t i h
theorem noMaps_no : ∀ t i, noMaps T t = some i → ∀ k e, i.u ≠ .map k e := by
  intro t i h k e0 e
  unfold noMaps at h
  split at h
  · cases h
  · rename_i hno
    obtain ⟨u, a, b, c⟩ := i
    simp only at e
    subst e
    exact hno _ _ _ _ _ h
/-- THE CONTRACT OF A FUNCTION THAT MAY HAND ON THE CALLER'S OWN ROWS, FROM ITS BODY. -/
theorem satL_of_wp (hm : P.follows .mixedOrders = true) (hT : TOk P T) {g : FuncId} {fn : Func} {c : Code} {args ms : List D} {res : D} {ms' : List (Option D)} {news : List D} (hf : P.funcs[g]? = some fn) (hb : fn.body = some c)
    (hname : (fn.name == "runtime.NumGoroutine") = false) {k : Nat} (hk : fn.ntmps = k) (hlen : Nat.ble args.length k = true) (hsmall : Nat.ble k lentKey = true) {rs : Array ResultVar} (hrs : fn.results = rs)
    (hcode : codeOk k c = true) (h : wp P (noMaps T) c (bodyQM (noMaps T) rs.toList res ms' news) (entryM args ms)) : SatB true P g args ms res ms' news :=
  satB_of_wp (.inr noMaps_no) hm (noMaps_ok hT) hf hb hname hk hlen hsmall hrs hcode h
end
end Go.V
/- A nil slice that is handed back, told as an empty one. -/
set_option linter.unusedVariables false
set_option linter.unusedSimpArgs false
set_option linter.unusedSectionVars false
namespace Go.V
variable [Globs]
def isNilV : D → Bool
  | .v (.slice none 0 0) => true
  | _ => false
def isNilR : D → Bool
  | .row true _ (.v (.agg ⟨[]⟩)) 0 => true
  | _ => false
theorem isNilV_eq {d : D} (h : isNilV d = true) : d = .v (.slice none 0 0) := by
  unfold isNilV at h
  split at h
  · rfl
  · cases h
theorem isNilR_eq {d : D} (h : isNilR d = true) : ∃ sz, d = .row true sz (.v (.agg ⟨[]⟩)) 0 := by
  unfold isNilR at h
  split at h
  · exact ⟨_, rfl⟩
  · cases h
def NilL : List D → List D → Prop
  | [], [] => True
  | e :: es, d :: ds => (e = d ∨ (isNilV d = true ∧ isNilR e = true)) ∧ NilL es ds
  | _, _ => False
theorem NilL.get : ∀ {es ds : List D}, NilL es ds → ∀ (j : Nat), (es[j]? = none ∧ ds[j]? = none) ∨ (∃ e d, es[j]? = some e ∧ ds[j]? = some d ∧ (e = d ∨ (isNilV d = true ∧ isNilR e = true)))
  | [], [], _, j => by simp
  | e :: es, d :: ds, h, 0 => .inr ⟨e, d, rfl, rfl, h.1⟩
  | e :: es, d :: ds, h, j + 1 => by simpa using NilL.get h.2 j
  | [], _ :: _, h, _ => h.elim
  | _ :: _, [], h, _ => h.elim
theorem NilL.length : ∀ {es ds : List D}, NilL es ds → es.length = ds.length
  | [], [], _ => rfl
  | e :: es, d :: ds, h => by simp [NilL.length h.2]
  | [], _ :: _, h => h.elim
  | _ :: _, [], h => h.elim
theorem NilL.clean : ∀ {es ds : List D}, NilL es ds → cleanL ds = true → cleanL es = true
  | [], [], _, _ => rfl
  | e :: es, d :: ds, h, hc => by
    simp only [cleanL, Bool.and_eq_true] at hc ⊢
    refine ⟨?_, NilL.clean h.2 hc.2⟩
    rcases h.1 with rfl | ⟨_, h2⟩
    · exact hc.1
    · obtain ⟨sz, rfl⟩ := isNilR_eq h2; rfl
  | [], _ :: _, h, _ => h.elim
  | _ :: _, [], h, _ => h.elim
/-- No part is a tuple. -/
def flatL : List D → Bool
  | [] => true
  | .tup _ :: _ => false
  | _ :: r => flatL r
theorem tops_one : ∀ {ds : List D}, flatL ds = true → tops (one' ds) = ds
  | [], _ => rfl
  | [d], h => by cases d <;> first | rfl | (simp [flatL] at h)
  | d :: e :: r, _ => rfl
theorem NilL.flat : ∀ {es ds : List D}, NilL es ds → flatL ds = true → flatL es = true
  | [], [], _, _ => rfl
  | e :: es, d :: ds, h, hf => by
    rcases h.1 with rfl | ⟨h1, h2⟩
    · have hh := NilL.flat h.2
      cases e <;> first | exact hh hf | exact absurd hf (by simp [flatL])
    · obtain ⟨sz, rfl⟩ := isNilR_eq h2
      rw [isNilV_eq h1] at hf
      simp only [flatL] at hf ⊢
      exact NilL.flat h.2 hf
  | [], _ :: _, h, _ => h.elim
  | _ :: _, [], h, _ => h.elim

section
variable {w : World} {B : Nat}
/-- Where an empty slice lies: nowhere. -/
def nilLoc (es ds : List D) (loc : Loc) : Loc := fun id =>
  match es[id.2.2]?, ds[id.2.2]? with
  | some e, some d => bif id.1 == 0 && id.2.1 == 0 && isNilV d && isNilR e then some (none, 0) else loc id
  | _, _ => loc id
theorem nilLoc_sub {es ds : List D} {loc : Loc} {id : Id} {b n : Nat} (h : nilLoc es ds loc id = some (some b, n)) : loc id = some (some b, n) := by
  unfold nilLoc at h
  split at h
  · rename_i e d _ _
    cases hc : (id.1 == 0 && id.2.1 == 0 && isNilV d && isNilR e) <;> simp only [hc, cond_true, cond_false] at h
    · exact h
    · simp at h
  · exact h

theorem ResRep.nil {es ds : List D} {y : Value} {loc : Loc} (hn : NilL es ds) (hf : flatL ds = true) (h : ResRep w B (one' ds) y loc) : ResRep w B (one' es) y (nilLoc es ds loc) := by
  have ht := tops_one hf
  have ht' := tops_one (hn.flat hf)
  have hnone : ∀ j d, ds[j]? = some d → isNilV d = true → loc (0, 0, j) = none := by
    intro j d hd hv
    cases hl : loc (0, 0, j) with
    | none => rfl
    | some l =>
      have := (h.key _ _ hl).2.2
      rw [ht] at this
      simp only [impC, hd] at this
      rw [isNilV_eq hv] at this
      simp [rowC] at this
  have keep : ∀ id l, loc id = some l → nilLoc es ds loc id = some l := by
    intro id l hl
    unfold nilLoc
    split
    · rename_i e d he hd
      cases hc : (id.1 == 0 && id.2.1 == 0 && isNilV d && isNilR e) <;> simp only [cond_true, cond_false]
      · exact hl
      · simp only [Bool.and_eq_true, beq_iff_eq] at hc
        obtain ⟨⟨⟨h1, h2⟩, h3⟩, h4⟩ := hc
        obtain ⟨a, b, c⟩ := id
        simp only at h1 h2 hd
        subst h1; subst h2
        rw [hnone c d hd h3] at hl
        cases hl
    · exact hl
  have hext : Ext B B w loc w (nilLoc es ds loc) :=
    ⟨Nat.le_refl _, keep, fun b k e fr hk hv => ⟨hk, fun id n hl => hv _ _ (nilLoc_sub hl)⟩, fun id b n k e fr _ hk => ⟨k, e, fr, hk, Nat.le_refl _⟩⟩
  have one : ∀ (j : Nat) (e d : D) (z : Value), es[j]? = some e → ds[j]? = some d → (e = d ∨ (isNilV d = true ∧ isNilR e = true)) → Rep w B loc (impD 0 0 j d) z → Rep w B (nilLoc es ds loc) (impD 0 0 j e) z := by
    intro j e d z he hd hed hr
    rcases hed with rfl | ⟨h1, h2⟩
    · exact Rep.ext hext _ _ hr
    · have h1' := h1
      have h2' := h2
      rw [isNilV_eq h1] at hr
      obtain ⟨sz, he'⟩ := isNilR_eq h2
      rw [he']
      simp only [impD, Rep] at hr ⊢
      have hl : nilLoc es ds loc (0, 0, j) = some (none, 0) := by
        unfold nilLoc
        simp only [he, hd, h1', h2', beq_self_eq_true, Bool.and_self, cond_true]
      exact ⟨none, 0, none, 0, hr.1, Nat.le_refl _, hl, by simp, by simp, by simp⟩
  have many : ∀ (es' ds' : List D) (j : Nat) (vs : List Value), (∀ i, es'[i]? = es[j + i]?) → (∀ i, ds'[i]? = ds[j + i]?) → NilL es' ds' → RepL w B loc (impL 0 0 j ds') vs → RepL w B (nilLoc es ds loc) (impL 0 0 j es') vs := by
    intro es'
    induction es' with
    | nil => intro ds' j vs _ _ hn' hr; cases ds' with
      | nil => simpa only [impL, RepL] using hr
      | cons d r => exact hn'.elim
    | cons e es' ih =>
      intro ds' j vs h1 h2 hn' hr
      cases ds' with
      | nil => exact hn'.elim
      | cons d ds' =>
        simp only [impL, RepL] at hr ⊢
        obtain ⟨z, zs, rfl, r1, r2⟩ := hr
        refine ⟨z, zs, rfl, one j e d z ?_ ?_ hn'.1 r1, ih ds' (j + 1) zs ?_ ?_ hn'.2 r2⟩
        · have := h1 0; simpa using this.symm
        · have := h2 0; simpa using this.symm
        · intro i; have := h1 (i + 1); rw [show j + 1 + i = j + (i + 1) by omega]; simpa using this
        · intro i; have := h2 (i + 1); rw [show j + 1 + i = j + (i + 1) by omega]; simpa using this
  refine ⟨?_, ?_, ?_, ?_, ?_, ?_⟩
  · rw [ht']; have := h.new; rw [ht] at this; exact hn.clean this
  · have hr := h.rep
    match es, ds, hn, hf, hr with
    | [], [], _, _, hr => exact hr
    | [e], [d], hn, hf, hr =>
      have he : impV 0 0 (one' [e]) = impD 0 0 0 e := by
        have := hn.flat hf
        cases e <;> first | rfl | (simp [flatL] at this)
      have hd : impV 0 0 (one' [d]) = impD 0 0 0 d := by cases d <;> first | rfl | (simp [flatL] at hf)
      rw [he]
      rw [hd] at hr
      exact one 0 e d y rfl rfl hn.1 hr
    | e :: e' :: es, d :: d' :: ds, hn, hf, hr =>
      simp only [one', impV] at hr ⊢
      rw [Rep] at hr ⊢
      obtain ⟨vs, h1, h2⟩ := hr
      exact ⟨vs, h1, many _ _ 0 vs (fun i => by rw [Nat.zero_add]) (fun i => by rw [Nat.zero_add]) hn h2⟩
    | [e], d :: d' :: ds, hn, _, _ => exact hn.2.elim
    | e :: e' :: es, [d], hn, _, _ => exact hn.2.elim
  · intro id b n hl; exact h.range _ _ _ (nilLoc_sub hl)
  · intro id l hl
    rw [ht']
    unfold nilLoc at hl
    have old : loc id = some l → id.1 = 0 ∧ id.2.1 = 0 ∧ (impC es id.2.2).isSome = true := by
      intro hl
      obtain ⟨h1, h2, h3⟩ := h.key _ _ hl
      rw [ht] at h3
      refine ⟨h1, h2, ?_⟩
      rcases hn.get id.2.2 with ⟨_, q⟩ | ⟨e, d, q1, q2, q3⟩
      · simp [impC, q] at h3
      · simp only [impC, q1, q2] at h3 ⊢
        rcases q3 with rfl | ⟨q3, q4⟩
        · exact h3
        · rw [isNilV_eq q3] at h3; simp [rowC] at h3
    split at hl
    · rename_i e d he hd
      cases hc : (id.1 == 0 && id.2.1 == 0 && isNilV d && isNilR e) <;> simp only [hc, cond_true, cond_false] at hl
      · exact old hl
      · simp only [Bool.and_eq_true, beq_iff_eq] at hc
        refine ⟨hc.1.1.1, hc.1.1.2, ?_⟩
        obtain ⟨sz, he'⟩ := isNilR_eq hc.2
        simp [impC, he, he', rowC]
    · exact old hl
  · intro id id' b n n' hl hl'
    exact h.inj _ _ _ _ _ (nilLoc_sub hl) (nilLoc_sub hl')
  · intro j c hj
    rw [ht'] at hj
    rcases hn.get j with ⟨q, _⟩ | ⟨e, d, q1, q2, q3⟩
    · simp [impC, q] at hj
    · simp only [impC, q1] at hj
      rcases q3 with rfl | ⟨q3, q4⟩
      · obtain ⟨l, xs, r1, r2, r3⟩ := h.mem j c (by rw [ht]; simp only [impC, q2]; exact hj)
        exact ⟨l, xs, keep _ _ r1, Rep.ext hext _ _ r2, r3⟩
      · have q4' := q4
        obtain ⟨sz, he'⟩ := isNilR_eq q4
        rw [he'] at hj
        simp only [rowC, Option.some.injEq] at hj
        subst hj
        refine ⟨none, [], ?_, ?_, rfl⟩
        · unfold nilLoc
          simp only [q1, q2, q3, q4', beq_self_eq_true, Bool.and_self, cond_true]
          rfl
        · simp only [Rep]; exact ⟨trivial, rfl⟩
end

def finQN (T : Types) (rs : List ResultVar) (res : D) (s : St) : Prop :=
  resK T s rs fun ds => distinct (topIds ds) = true ∧ ∃ ds', mapO (expD (topIds ds) s.m) ds = some ds' ∧ ∃ es, flatL ds' = true ∧ NilL es ds' ∧ res = one' es
def bodyQN (T : Types) (rs : List ResultVar) (res : D) : Ex → St → Prop
  | .normal, s => finQN T rs res s
  | .ret, s => finQN T rs res s
  | .exit _, _ => False

/-- THE CONTRACT OF A FUNCTION, FROM ITS BODY; nil slices that are handed back may be told as empty ones. -/
theorem satN_of_wp {P : Program} {T : Types} (hm : P.follows .mixedOrders = true) (hT : TOk P T) {g : FuncId} {fn : Func} {c : Code} {args : List D} {res : D} (hf : P.funcs[g]? = some fn) (hb : fn.body = some c)
    (hname : (fn.name == "runtime.NumGoroutine") = false) {k : Nat} (hk : fn.ntmps = k) (hlen : Nat.ble args.length k = true) (hsmall : Nat.ble k lentKey = true) {rs : Array ResultVar} (hrs : fn.results = rs)
    (hcode : codeOk k c = true) (h : wp P T c (bodyQN T rs.toList res) (entry args)) : Sat P g args res := by
  refine ⟨⟨fn, c, hf, hb, hname⟩, fun w vs hgl hr => ?_⟩
  have hal := hr.length
  have hlen' := Nat.le_of_ble_eq_true hlen
  refine calls_of_wp hf hb ?_
  have hinv : Inv P T k w w.heap.size noLoc (entry args) { tmps := ⟨vs⟩ ++ Array.replicate (fn.ntmps - (⟨vs⟩ : Array Value).size) undef, defers := [] } w noLoc := by
    refine ⟨hT, ⟨Nat.le_refl _, .inl rfl, hgl.lt⟩, (fun e => by simp [entry] at e), by simp [hk]; omega, Nat.le_of_ble_eq_true hsmall, rfl, ⟨rfl, rfl, rfl, Nat.le_refl _, fun _ _ _ => rfl, fun b k e fr hk => ⟨k, e, fr, hk, Nat.le_refl _⟩⟩, fun i => ?_, fun id c hc => by simp [entry] at hc, fun id l hl => by simp [noLoc] at hl, fun id b k hl => by simp [noLoc] at hl, fun id c hc => by simp [entry] at hc, fun _ _ => rfl, fun id id' c c' b k k' hc => by simp [entry] at hc, hgl⟩
    simp only [entry]
    rw [List.getD_eq_getElem?_getD]
    cases hd : args[i]? with
    | none => simp [Rep]
    | some d =>
      obtain ⟨y, h1, h2⟩ := hr.get i d hd
      have hlt : i < vs.length := (List.getElem?_eq_some_iff.1 h1).1
      have : (({ tmps := (⟨vs⟩ : Array Value) ++ Array.replicate (fn.ntmps - (⟨vs⟩ : Array Value).size) undef, defers := [] } : Act).tmps.getD i undef) = y := by
        rw [Array.getD_eq_getD_getElem?, Array.getElem?_append_left (by simpa using hlt)]
        simp [h1]
      rw [this]
      exact h2
  refine wp_sound hm c hcode _ _ _ _ _ _ h hinv ?_
  intro e x s' a' w' loc' he hq hi
  have fin : finQN T rs.toList res s' → a'.defers = [] ∧ ∃ v, (results fn a'.tmps).run P w' = .ok v w' ∧ (∃ y loc, Ending.returned v = .returned y ∧ RowKit.Below w.heap.size w w' ∧ ResRep w' w.heap.size res y loc) := by
    intro hq
    obtain ⟨ds, vs', ⟨h1, ds', h2, es, h5, h6, rfl⟩, h3, h4⟩ := resK_sound hi rs.toList _ hq
    obtain ⟨locr, hres⟩ := exp_sound hi h3 h1 h2
    refine ⟨hi.defers, _, run_results (by rw [hrs]; exact h4), _, _, rfl, ?_, hres.nil h6 h5⟩
    exact ⟨hi.same.os, hi.same.tape, hi.same.output, hi.same.size, fun k hk => hi.same.block k hk (fun h => by obtain ⟨_, _, _, _, h⟩ := h; cases h)⟩
  cases e with
  | normal => cases he; exact fin hq
  | ret => cases he; exact fin hq
  | exit id => cases he; exact hq.elim
  | _ => cases he
theorem SatB.of_eq {low : Bool} {P : Program} {g : FuncId} {args args' ms ms0 : List D} {res : D} {ms' : List (Option D)} {news : List D} (h : SatB low P g args ms res ms' news) (e : args' = args) (e2 : ms0 = ms) : SatB low P g args' ms0 res ms' news := by
  rw [e, e2]; exact h
theorem SatM.of_eq {P : Program} {g : FuncId} {args args' ms ms0 : List D} {res : D} {ms' : List (Option D)} {news : List D} (h : SatM P g args ms res ms' news) (e : args' = args) (e2 : ms0 = ms) : SatM P g args' ms0 res ms' news := by
  rw [e, e2]; exact h
/-- Values that a function carries with it, told as data. -/
structure CapOk (caps : List D) : Prop where
  deep : ∀ m, mapO (deep false [] m depth) caps = some caps
  ren : ∀ rn, mapO (renD rn 11) caps = some caps
theorem CapOk.fn {caps : List D} (h : CapOk caps) (f : Fn) (rn : Rn) : renD rn depth (.fn f [] caps) = some (.fn f [] caps) := by
  have := h.ren rn
  show renD rn (11 + 1) (.fn f [] caps) = _
  rw [renD]
  simp only [mapO, this]
theorem CapOk.one {caps : List D} (h : CapOk caps) {m : Id → Option D} {x y : D} (hx : V.deep false [] m depth x = some y) : mapO (V.deep false [] m depth) ([] ++ ([x] ++ caps)) = some (y :: caps) := by
  simp only [List.nil_append, List.cons_append, mapO, hx, h.deep]
theorem CapOk.two {caps : List D} (h : CapOk caps) {m : Id → Option D} {x y x' y' : D} (hx : V.deep false [] m depth x = some y) (hx' : V.deep false [] m depth x' = some y') : mapO (V.deep false [] m depth) ([] ++ ([x, x'] ++ caps)) = some (y :: y' :: caps) := by
  simp only [List.nil_append, List.cons_append, mapO, hx, hx', h.deep]
theorem CapOk.nil : CapOk [] := ⟨fun _ => rfl, fun _ => rfl⟩
end Go.V
