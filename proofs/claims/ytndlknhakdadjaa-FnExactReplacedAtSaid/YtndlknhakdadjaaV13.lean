/- A contract from the weakest precondition of a function's body. -/
import Derived.Test.YtndlknhakdadjaaV12
set_option linter.unusedVariables false
set_option linter.unusedSimpArgs false
namespace Go.V

theorem ble_true {a b : Nat} (h : a ≤ b) : Nat.ble a b = true := by rw [Nat.ble_eq]; exact h

theorem mapO_get {α β : Type} {f : α → Option β} : ∀ {l : List α} {l' : List β}, mapO f l = some l' → ∀ (j : Nat), (∀ x, l[j]? = some x → ∃ y, l'[j]? = some y ∧ f x = some y) ∧ (l[j]? = none → l'[j]? = none)
  | [], l', h, j => by simp only [mapO, Option.some.injEq] at h; subst h; simp
  | x :: l, l', h, j => by
    simp only [mapO] at h
    split at h
    · rename_i y hy
      split at h
      · rename_i ys hys
        simp only [Option.some.injEq] at h
        subst h
        cases j with
        | zero => simp [hy]
        | succ j => simpa using mapO_get hys j
      · simp at h
    · simp at h

theorem cleanL_of {ds : List D} (h : ∀ d ∈ ds, clean d = true) : cleanL ds = true := by
  induction ds with
  | nil => rfl
  | cons d ds ih => simp only [cleanL, Bool.and_eq_true]; exact ⟨h d (by simp), ih fun x hx => h x (by simp [hx])⟩

theorem deepO_clean {bad : List Id} {m : Id → Option D} : ∀ (n : Nat) (d d' : D), deep true bad m n d = some d' → clean d' = true
  | 0, d, d', h => by simp [deep] at h
  | n + 1, d, d', h => by
    have ih := deepO_clean (bad := bad) (m := m) n
    have ihL : ∀ {ds ds' : List D}, mapO (deep true bad m n) ds = some ds' → cleanL ds' = true := by
      intro ds
      induction ds with
      | nil => intro ds' h; simp only [mapO, Option.some.injEq] at h; subst h; rfl
      | cons x ds ihd =>
        intro ds' h
        simp only [mapO] at h
        split at h
        · rename_i y hy
          split at h
          · rename_i ys hys
            simp only [Option.some.injEq] at h
            subst h
            simp only [cleanL, Bool.and_eq_true]
            exact ⟨ih _ _ hy, ihd hys⟩
          · simp at h
        · simp at h
    cases d with
    | junk => simp [deep] at h
    | v x => simp only [deep, Option.some.injEq] at h; subst h; rfl
    | ptr id off =>
      simp only [deep] at h
      split at h <;> try (simp at h; done)
      cases hb : (true && (idIn id bad || Nat.ble lentKey id.1)) <;> simp only [hb, cond_true, cond_false] at h
      all_goals first
        | (simp at h; done)
        | skip
      all_goals (split at h <;> first | (simp at h; done) | (simp only [Option.some.injEq] at h; subst h; rename_i hc; simp only [clean, Bool.true_and]; exact ih _ _ hc))
    | slc f sz id off len =>
      simp only [deep] at h
      cases hb : (true && (idIn id bad || Nat.ble lentKey id.1)) <;> simp only [hb, cond_true, cond_false] at h
      · split at h
        · simp only [Option.some.injEq] at h; subst h; rfl
        · split at h
          · rename_i hds
            simp only [Option.some.injEq] at h; subst h
            simp only [clean, Bool.true_and]
            exact ihL hds
          · simp at h
        · simp at h
      · simp at h
    | ref mi c off =>
      simp only [deep] at h
      cases hb : (true && !mi) <;> simp only [hb, cond_true, cond_false] at h
      · split at h
        · rename_i hc; simp only [Option.some.injEq] at h; subst h; simp only [clean, Bool.true_and]; exact ih _ _ hc
        · simp at h
      · simp at h
    | row mi sz c len =>
      simp only [deep] at h
      cases hb : (true && !mi) <;> simp only [hb, cond_true, cond_false] at h
      · split at h
        · rename_i hc; simp only [Option.some.injEq] at h; subst h; simp only [clean, Bool.true_and]; exact ih _ _ hc
        · simp at h
      · simp at h
    | agg ds =>
      simp only [deep] at h
      split at h
      · rename_i hds; simp only [Option.some.injEq] at h; subst h; simp only [clean]; exact ihL hds
      · simp at h
    | tup ds =>
      simp only [deep] at h
      split at h
      · rename_i hds; simp only [Option.some.injEq] at h; subst h; simp only [clean]; exact ihL hds
      · simp at h
    | fn f a b =>
      simp only [deep] at h
      split at h
      · rename_i ha
        split at h
        · rename_i hb; simp only [Option.some.injEq] at h; subst h; simp only [clean, Bool.and_eq_true]; exact ⟨ihL ha, ihL hb⟩
        · simp at h
      · simp at h

section
variable {out : Bool} {bad : List Id} {m : Id → Option D} {n : Nat}
theorem deep_ptr {id : Id} {off : Nat} {d : D} (h : deep out bad m (n + 1) (.ptr id off) = some d) : ∃ c, d = .ref out c off := by
  simp only [deep] at h
  cases hb : (out && (idIn id bad || Nat.ble lentKey id.1)) <;> simp only [hb, cond_true, cond_false] at h
  · split at h
    · split at h
      · simp only [Option.some.injEq] at h; exact ⟨_, h.symm⟩
      · cases h
    · cases h
  · cases h
theorem deep_ref {mi : Bool} {c : D} {off : Nat} {d : D} (h : deep out bad m (n + 1) (.ref mi c off) = some d) : ∃ c', d = .ref out c' off := by
  simp only [deep] at h
  cases hb : (out && !mi) <;> simp only [hb, cond_true, cond_false] at h
  · split at h
    · simp only [Option.some.injEq] at h; exact ⟨_, h.symm⟩
    · cases h
  · cases h
theorem deep_agg {ds : List D} {d : D} (h : deep out bad m (n + 1) (.agg ds) = some d) : ∃ ds', d = .agg ds' := by
  simp only [deep] at h
  split at h
  · simp only [Option.some.injEq] at h; exact ⟨_, h.symm⟩
  · cases h
theorem deep_fn {f : Fn} {a b : List D} {d : D} (h : deep out bad m (n + 1) (.fn f a b) = some d) : ∃ a' b', d = .fn f a' b' := by
  simp only [deep] at h
  split at h
  · split at h
    · simp only [Option.some.injEq] at h; exact ⟨_, _, h.symm⟩
    · cases h
  · cases h
end

section
variable {w : World} {base : Nat} {loc : Loc}

/-- Data for a result. -/
theorem deep_out {bad : List Id} {m : Id → Option D} (hm : MemOk w base loc m) {locr : Loc} (hown : ∀ id b k, loc id = some (some b, k) → id.1 < lentKey → base ≤ b)
    (hsub : ∀ b, loc.avoids b → locr.avoids b) (hbad : ∀ id c b k, m id = some c → idIn id bad = false → loc id = some (some b, k) → locr.avoids b) :
    ∀ (n : Nat) (d d' : D) (y : Value), deep true bad m n d = some d' → Rep w base loc d y → Rep w base locr d' y
  | 0, d, d', y, h, _ => by simp [deep] at h
  | n + 1, d, d', y, h, hr => by
    have ih := deep_out hm hown hsub hbad n
    cases d with
    | junk => simp [deep] at h
    | v x =>
      simp only [deep, Option.some.injEq] at h
      subst h
      simpa only [Rep] using hr
    | ptr id off =>
      simp only [deep] at h
      cases hb : (true && (idIn id bad || Nat.ble lentKey id.1)) <;> simp only [hb, cond_true, cond_false] at h
      · simp only [Bool.true_and, Bool.or_eq_false_iff] at hb
        split at h
        · rename_i c hc
          split at h
          · rename_i c' hc'
            simp only [Option.some.injEq] at h
            subst h
            simp only [Rep] at hr ⊢
            obtain ⟨b, k, h1, h2⟩ := hr
            obtain ⟨l, xs, g1, g2, g3⟩ := hm id c hc
            rw [h1] at g1
            simp only [Option.some.injEq, Prod.mk.injEq] at g1
            obtain ⟨rfl, _⟩ := g1
            have hlt : id.1 < lentKey := by
              rcases Nat.lt_or_ge id.1 lentKey with h | h
              · exact h
              · have := hb.2; rw [ble_true h] at this; cases this
            exact ⟨b, 0, xs, by rw [h2, Nat.zero_add], At.of_blk g3, hbad id c b k hc hb.1 h1, fun _ => hown id b k h1 hlt, ih c c' _ hc' g2⟩
          · simp at h
        · simp at h
      · simp at h
    | slc full sz id off len =>
      simp only [deep] at h
      cases hb : (true && (idIn id bad || Nat.ble lentKey id.1)) <;> simp only [hb, cond_true, cond_false] at h
      · simp only [Bool.true_and, Bool.or_eq_false_iff] at hb
        have hlt : id.1 < lentKey := by
          rcases Nat.lt_or_ge id.1 lentKey with h | h
          · exact h
          · have := hb.2; rw [ble_true h] at this; cases this
        have main : ∀ c c' : D, m id = some c → (∀ xs, Rep w base loc c (.agg ⟨xs⟩) → off + len * sz ≤ xs.length → Rep w base locr c' (.agg ⟨(xs.drop off).take (len * sz)⟩)) → Rep w base locr (.row true sz c' len) y := by
          intro c c' hc hcc
          simp only [Rep] at hr ⊢
          obtain ⟨a, cap, l, k, h1, h2, h3, h4, h5, h6⟩ := hr
          obtain ⟨l', xs, g1, g2, g3⟩ := hm id c hc
          rw [h3] at g1
          simp only [Option.some.injEq, Prod.mk.injEq] at g1
          obtain ⟨rfl, rfl⟩ := g1
          refine ⟨a, cap, (xs.drop off).take (len * sz), h1, h2, hcc xs g2 h4, by simp; omega, ?_⟩
          cases l with
          | none => exact .inl (by simp [h6.1])
          | some b =>
            obtain ⟨o, k1, k2, k3⟩ := h6
            by_cases hz : len * sz = 0
            · exact .inl hz
            · have hl : len ≠ 0 := fun e => hz (by simp [e])
              refine .inr ⟨b, o, k1, ?_, hbad id c b _ hc hb.1 h3, fun _ => hown id b _ h3 hlt⟩
              have := (At.of_blk g3).sub off (len * sz) h4
              rw [Nat.zero_add, ← k2 hl] at this
              rw [← k2 hl]
              exact this
        split at h
        · rename_i a hc
          simp only [Option.some.injEq] at h
          subst h
          refine main _ _ hc fun xs hx hl => ?_
          simp only [Rep, Value.agg.injEq] at hx ⊢
          obtain ⟨rfl, hf⟩ := hx
          refine ⟨rfl, ?_⟩
          simp only [Flat, List.all_eq_true] at hf ⊢
          exact fun x hx => hf x (List.mem_of_mem_drop (List.mem_of_mem_take hx))
        · rename_i ds hc
          split at h
          · rename_i ds' hds
            simp only [Option.some.injEq] at h
            subst h
            refine main _ _ hc fun xs hx hl => ?_
            simp only [Rep, Value.agg.injEq, Array.mk.injEq] at hx ⊢
            obtain ⟨vs, rfl, h2, h3⟩ := hx
            refine ⟨_, rfl, mapO_rep (fun d d' y => ih d d' y) hds ((h2.drop off).take _), ?_⟩
            simp only [List.all_eq_true] at h3 ⊢
            exact fun x hx => h3 x (List.mem_of_mem_drop (List.mem_of_mem_take hx))
          · simp at h
        · simp at h
      · simp at h
    | ref mi c off =>
      simp only [deep] at h
      cases hb : (true && !mi) <;> simp only [hb, cond_true, cond_false] at h
      · simp only [Bool.true_and, Bool.not_eq_false'] at hb
        split at h
        · rename_i c' hc'
          simp only [Option.some.injEq] at h
          subst h
          simp only [Rep] at hr ⊢
          obtain ⟨b, o, xs, h1, h2, h3, h4, h5⟩ := hr
          exact ⟨b, o, xs, h1, h2, hsub b h3, fun _ => h4 hb, ih c c' _ hc' h5⟩
        · simp at h
      · simp at h
    | row mi sz c len =>
      simp only [deep] at h
      cases hb : (true && !mi) <;> simp only [hb, cond_true, cond_false] at h
      · simp only [Bool.true_and, Bool.not_eq_false'] at hb
        split at h
        · rename_i c' hc'
          simp only [Option.some.injEq] at h
          subst h
          simp only [Rep] at hr ⊢
          obtain ⟨a, cap, xs, h1, h2, h3, h4, h5⟩ := hr
          refine ⟨a, cap, xs, h1, h2, ih c c' _ hc' h3, h4, ?_⟩
          rcases h5 with h5 | ⟨b, o, g1, g2, g3, g4⟩
          · exact .inl h5
          · exact .inr ⟨b, o, g1, g2, hsub b g3, fun _ => g4 hb⟩
        · simp at h
      · simp at h
    | agg ds =>
      simp only [deep] at h
      split at h
      · rename_i ds' hds
        simp only [Option.some.injEq] at h
        subst h
        simp only [Rep] at hr ⊢
        obtain ⟨vs, h1, h2, h3⟩ := hr
        exact ⟨vs, h1, mapO_rep (fun d d' y => ih d d' y) hds h2, h3⟩
      · simp at h
    | tup ds =>
      simp only [deep] at h
      split at h
      · rename_i ds' hds
        simp only [Option.some.injEq] at h
        subst h
        simp only [Rep] at hr ⊢
        obtain ⟨vs, h1, h2⟩ := hr
        exact ⟨vs, h1, mapO_rep (fun d d' y => ih d d' y) hds h2⟩
      · simp at h
    | fn f a b =>
      simp only [deep] at h
      split at h
      · rename_i a' ha
        split at h
        · rename_i b' hb
          simp only [Option.some.injEq] at h
          subst h
          simp only [Rep] at hr ⊢
          obtain ⟨va, vb, h1, h2, h3⟩ := hr
          exact ⟨va, vb, h1, mapO_rep (fun d d' y => ih d d' y) ha h2, mapO_rep (fun d d' y => ih d d' y) hb h3⟩
        · simp at h
      · simp at h
end

section
variable {P : Program} {T : Types} {n : Nat} {w0 w : World} {l0 : Loc} {s : St} {a : Act} {loc : Loc}

def resOf (a : Act) : ResultVar → Sem Value
  | .tmp t => pure (a.tmps.getD t undef)
  | .cell x t => do loadVar t (← asAddr (a.tmps.getD x undef))

theorem resK_sound (h : Inv P T n w0 l0 s a w loc) : ∀ (rs : List ResultVar) (K : List D → Prop), resK T s rs K → ∃ ds vs, K ds ∧ RepL w w0.heap.size loc ds vs ∧ (rs.mapM (resOf a)).run P w = .ok vs w
  | [], K, hk => ⟨[], [], hk, by simp [RepL], by simp⟩
  | .tmp t :: r, K, hk => by
    simp only [resK] at hk
    rw [force_eq] at hk
    obtain ⟨ds, vs, h1, h2, h3⟩ := resK_sound h r _ hk
    refine ⟨_, a.tmps.getD t undef :: vs, h1, ?_, ?_⟩
    · simp only [RepL]; exact ⟨_, vs, rfl, h.tmp t, h2⟩
    · simp [List.mapM_cons, resOf, h3]
  | .cell x t :: r, K, hk => by
    simp only [resK] at hk
    split at hk
    · rename_i id off hx
      have hv := h.tmp x
      rw [hx] at hv
      simp only [Rep] at hv
      obtain ⟨b, k, hl, hv⟩ := hv
      split at hk
      · rename_i c hc
        obtain ⟨l, xs, g1, g2, g3⟩ := h.mem id c hc
        rw [hl] at g1
        simp only [Option.some.injEq, Prod.mk.injEq] at g1
        obtain ⟨rfl, _⟩ := g1
        obtain ⟨d, z, k1, k2, k3⟩ := loadK_sound h.types hk g2 (At.of_blk g3)
        rw [Nat.zero_add] at k2
        obtain ⟨ds, vs, h1, h2, h3⟩ := resK_sound h r _ k1
        refine ⟨_, z :: vs, h1, ?_, ?_⟩
        · simp only [RepL]; exact ⟨z, vs, rfl, k3, h2⟩
        · simp [List.mapM_cons, resOf, h3, hv, asAddr, k2]
      · exact hk.elim
    · exact hk.elim

def joinV : List Value → Value
  | [v] => v
  | vs => .tuple ⟨vs⟩

theorem run_results {fn : Func} {vs : List Value} (h : (fn.results.toList.mapM (resOf a)).run P w = .ok vs w) : (results fn a.tmps).run P w = .ok (joinV vs) w := by
  have e : (fn.results.mapM fun
    | .tmp t => pure (a.tmps.getD t undef)
    | .cell x t => do loadVar t (← asAddr (a.tmps.getD x undef)) : Sem (Array Value)) = (List.toArray <$> fn.results.toList.mapM (resOf a)) := by
    rw [Array.mapM_eq_mapM_toList]
    congr 2
  unfold results
  rw [Sem.run_bind]
  have e2 := congrArg (fun x : Sem (Array Value) => x.run P w) e
  refine (congrArg (fun r => Result.andThen r _) e2).trans ?_
  rw [Sem.run_map, h]
  match vs with
  | [] => rfl
  | [v] => rfl
  | x :: y :: r => rfl

theorem topIds_mem {ds : List D} {j : Nat} {f : Bool} {sz : Nat} {id : Id} {off len : Nat} (h : ds[j]? = some (.slc f sz id off len)) : idIn id (topIds ds) = true := by
  induction ds generalizing j with
  | nil => simp at h
  | cons d ds ih =>
    cases j with
    | zero =>
      simp at h; subst h
      simp [topIds, idIn]
    | succ j =>
      simp at h
      have := ih h
      cases d <;> simp only [topIds] <;> first | exact this | (unfold idIn at this ⊢; simp only [List.any_cons, this, Bool.or_true])

theorem idIn_iff {id : Id} {l : List Id} : idIn id l = true ↔ id ∈ l := by
  unfold idIn
  rw [List.any_eq_true]
  constructor
  · rintro ⟨j, hj, h⟩
    simp only [Bool.and_eq_true, beq_iff_eq] at h
    obtain ⟨x, y, z⟩ := id
    obtain ⟨x', y', z'⟩ := j
    simp only at h
    rw [← h.1, ← h.2.1, ← h.2.2]
    exact hj
  · intro h
    exact ⟨id, h, by simp⟩

theorem distinct_get {ds : List D} (hd : distinct (topIds ds) = true) : ∀ {j j' : Nat} {f f' : Bool} {sz sz' : Nat} {id : Id} {off off' len len' : Nat}, ds[j]? = some (.slc f sz id off len) → ds[j']? = some (.slc f' sz' id off' len') → j = j' := by
  induction ds with
  | nil => intro j j' _ _ _ _ _ _ _ _ _ h; simp at h
  | cons d ds ih =>
    intro j j' f f' sz sz' id off off' len len' h h'
    have hd' : distinct (topIds ds) = true := by
      cases d <;> simp only [topIds] at hd <;> first | exact hd | (simp only [distinct, Bool.and_eq_true] at hd; exact hd.2)
    cases j with
    | zero =>
      cases j' with
      | zero => rfl
      | succ j' =>
        simp at h h'
        subst h
        simp only [topIds, distinct, Bool.and_eq_true, Bool.not_eq_true'] at hd
        rw [topIds_mem h'] at hd
        simp at hd
    | succ j =>
      cases j' with
      | zero =>
        simp at h h'
        subst h'
        simp only [topIds, distinct, Bool.and_eq_true, Bool.not_eq_true'] at hd
        rw [topIds_mem h] at hd
        simp at hd
      | succ j' => simp at h h'; rw [ih hd' h h']

/-- What is handed back. -/
theorem exp_sound (h : Inv P T n w0 noLoc s a w loc) {ds ds' : List D} {vs : List Value} (hr : RepL w w0.heap.size loc ds vs) (hd : distinct (topIds ds) = true) (he : mapO (expD (topIds ds) s.m) ds = some ds') :
    ∃ locr, ResRep w w0.heap.size (one' ds') (joinV vs) locr := by
  let locr : Loc := fun id => if id.1 = 0 ∧ id.2.1 = 0 then (match ds[id.2.2]? with | some (.slc true _ id' 0 _) => loc id' | _ => none) else none
  have hl : ∀ id l, locr id = some l → id.1 = 0 ∧ id.2.1 = 0 ∧ ∃ sz id' len, ds[id.2.2]? = some (.slc true sz id' 0 len) ∧ loc id' = some l := by
    intro id l hl
    simp only [locr] at hl
    split at hl
    · rename_i h0
      refine ⟨h0.1, h0.2, ?_⟩
      split at hl
      · rename_i sz id' len hd'
        exact ⟨sz, id', len, hd', hl⟩
      · cases hl
    · cases hl
  have hat : ∀ (j sz : Nat) (id : Id) (len : Nat), ds[j]? = some (.slc true sz id 0 len) → locr (0, 0, j) = loc id := by
    intro j sz id len hj
    simp only [locr, hj, and_self, if_true]
  have exp_slc : ∀ (j sz : Nat) (id : Id) (len : Nat), ds[j]? = some (D.slc true sz id 0 len) → ∃ c c', s.m id = some c ∧ deep true (topIds ds) s.m depth c = some c' ∧ ds'[j]? = some (D.row true sz c' len) ∧ id.1 < lentKey := by
    intro j sz id len hj
    obtain ⟨y, h1, h2⟩ := (mapO_get he j).1 _ hj
    simp only [expD] at h2
    cases hb : Nat.ble lentKey id.1 <;> simp only [hb, cond_true, cond_false] at h2
    · have hlt : id.1 < lentKey := by
        rcases Nat.lt_or_ge id.1 lentKey with h | h
        · exact h
        · rw [ble_true h] at hb; cases hb
      split at h2
      · rename_i c hc
        split at h2
        · rename_i c' hc'
          simp only [Option.some.injEq] at h2
          subst h2
          exact ⟨c, c', hc, hc', h1, hlt⟩
        · simp at h2
      · simp at h2
    · simp at h2
  have hown : ∀ id b k, loc id = some (some b, k) → id.1 < lentKey → w0.heap.size ≤ b := fun id b k he _ => by
    rcases (h.range id b k he).1 (Nat.lt_trans ‹_› (by decide)) with h | h
    · exact h
    · obtain ⟨_, _, _, _, h⟩ := h; cases h
  have hsub : ∀ b, loc.avoids b → locr.avoids b := by
    intro b hv id k hk
    obtain ⟨_, _, sz, id', len, _, hl'⟩ := hl id _ hk
    exact hv _ _ hl'
  have hbad : ∀ id c b k, s.m id = some c → idIn id (topIds ds) = false → loc id = some (some b, k) → locr.avoids b := by
    intro id c b k hc hin hlo id2 k2 hk2
    obtain ⟨_, _, sz, id', len, hdj, hl'⟩ := hl id2 _ hk2
    obtain ⟨c2, _, hc2, _⟩ := exp_slc _ _ _ _ hdj
    have := h.inj _ _ _ _ _ _ _ hc hc2 hlo hl'
    subst this
    rw [topIds_mem hdj] at hin
    cases hin
  have hdeep := fun n d d' y => deep_out (bad := topIds ds) h.mem hown hsub hbad n d d' y
  have part : ∀ j d y d', ds[j]? = some d → Rep w w0.heap.size loc d y → ds'[j]? = some d' → clean d' = true ∧ (∀ x, d' ≠ .tup x) ∧ Rep w w0.heap.size locr (impD 0 0 j d') y := by
    intro j d y d' hj hrep hj'
    obtain ⟨y', h1, h2⟩ := (mapO_get he j).1 _ hj
    rw [hj'] at h1
    cases h1
    cases d with
    | slc f sz id off len =>
      have hfo : f = true ∧ off = 0 := by
        cases f
        · simp [expD] at h2
        · cases off with
          | zero => exact ⟨rfl, rfl⟩
          | succ o => simp [expD] at h2
      obtain ⟨rfl, rfl⟩ := hfo
      obtain ⟨c, c', hc, hc', hj2, hlt⟩ := exp_slc _ _ _ _ hj
      rw [hj'] at hj2
      simp only [Option.some.injEq] at hj2
      subst hj2
      refine ⟨by simp only [clean, Bool.true_and]; exact deepO_clean _ _ _ hc', by simp, ?_⟩
      simp only [impD]
      rw [Rep] at hrep ⊢
      obtain ⟨aa, cap, l, k, g1, g2, g3, g4⟩ := hrep
      exact ⟨aa, cap, l, k, g1, g2, by rw [hat _ _ _ _ hj]; exact g3, g4⟩
    | row => simp [expD] at h2
    | tup => simp [expD] at h2
    | junk => simp [expD, deep, depth] at h2
    | v x =>
      have h3 : D.v x = d' := by simpa [expD, deep, depth] using h2
      subst h3
      exact ⟨rfl, by simp, by simpa only [impD, Rep] using hrep⟩
    | ptr id off =>
      obtain ⟨c, rfl⟩ := deep_ptr (n := 11) h2
      exact ⟨deepO_clean _ _ _ h2, by simp, by simpa only [impD] using hdeep _ _ _ _ h2 hrep⟩
    | ref mi c off =>
      obtain ⟨c, rfl⟩ := deep_ref (n := 11) h2
      exact ⟨deepO_clean _ _ _ h2, by simp, by simpa only [impD] using hdeep _ _ _ _ h2 hrep⟩
    | agg es =>
      obtain ⟨c, rfl⟩ := deep_agg (n := 11) h2
      exact ⟨deepO_clean _ _ _ h2, by simp, by simpa only [impD] using hdeep _ _ _ _ h2 hrep⟩
    | fn f a1 b1 =>
      obtain ⟨c, c', rfl⟩ := deep_fn (n := 11) h2
      exact ⟨deepO_clean _ _ _ h2, by simp, by simpa only [impD] using hdeep _ _ _ _ h2 hrep⟩
  have hlen := mapO_length he
  have hparts : ∀ (j0 : Nat) (es es' : List D) (us : List Value), (∀ j, es[j]? = ds[j0 + j]?) → (∀ j, es'[j]? = ds'[j0 + j]?) → RepL w w0.heap.size loc es us → RepL w w0.heap.size locr (impL 0 0 j0 es') us ∧ cleanL es' = true := by
    intro j0 es
    induction es generalizing j0 with
    | nil =>
      intro es' us h1 h2 h3
      have h4 := h1 0
      simp only [Nat.add_zero] at h4
      have h5 := (mapO_get he j0).2 (by rw [← h4]; rfl)
      have h6 := h2 0
      simp only [Nat.add_zero] at h6
      rw [h5] at h6
      cases es' with
      | nil => exact ⟨by simpa only [impL, RepL] using h3, rfl⟩
      | cons e r => simp at h6
    | cons e es ih =>
      intro es' us h1 h2 h3
      have h4 := h1 0
      simp only [Nat.add_zero, List.getElem?_cons_zero] at h4
      obtain ⟨d', h5, h6⟩ := (mapO_get he j0).1 e h4.symm
      have h7 := h2 0
      simp only [Nat.add_zero] at h7
      rw [h5] at h7
      cases es' with
      | nil => simp at h7
      | cons e' r =>
        simp at h7
        subst h7
        simp only [RepL] at h3
        obtain ⟨y, ys, rfl, h8, h9⟩ := h3
        obtain ⟨p1, p2, p3⟩ := part j0 e y e' h4.symm h8 h5
        obtain ⟨q1, q2⟩ := ih (j0 + 1) r ys (fun j => by have := h1 (j + 1); simp only [List.getElem?_cons_succ] at this; rw [this]; congr 1; omega) (fun j => by have := h2 (j + 1); simp only [List.getElem?_cons_succ] at this; rw [this]; congr 1; omega) h9
        simp only [impL, RepL, cleanL, Bool.and_eq_true]
        exact ⟨⟨y, ys, rfl, p3, q1⟩, p1, q2⟩
  obtain ⟨hall, hclean⟩ := hparts 0 ds ds' vs (by simp) (by simp) hr
  have htops : tops (one' ds') = ds' := by
    match hds : ds' with
    | [] => rfl
    | [d'] =>
      have hl1 : ds.length = 1 := by rw [← hlen]; rfl
      obtain ⟨d, hdd⟩ : ∃ d, ds = [d] := List.length_eq_one_iff.1 hl1
      subst hdd
      simp only [RepL] at hr
      obtain ⟨y, ys, _, h8, _⟩ := hr
      have := (part 0 d y d' rfl h8 rfl).2.1
      cases d' <;> first | rfl | exact absurd rfl (this _)
    | x :: y :: r => rfl
  refine ⟨locr, ?_, ?_, ?_, ?_, ?_, ?_⟩
  · rw [htops]; exact hclean
  · match hds : ds', hvs : vs with
    | [], [] => simp only [one', impV, impL, Rep, RepL]; exact ⟨[], rfl, rfl⟩
    | [], v :: vs' => simp only [impL, RepL] at hall; cases hall
    | [d'], [v] =>
      simp only [impL, RepL] at hall
      obtain ⟨y, ys, h1, h2, h3⟩ := hall
      cases h1
      have ht : tops d' = [d'] := by simpa only [one'] using htops
      simp only [one']
      cases d' with
      | tup x => simp only [tops] at ht; exact absurd (congrArg (fun l : List D => SizeOf.sizeOf l) ht) (by simp; omega)
      | _ => exact h2
    | [d'], [] => simp only [impL, RepL] at hall; obtain ⟨y, ys, h1, _⟩ := hall; cases h1
    | [d'], v :: v' :: vs' => simp only [impL, RepL] at hall; obtain ⟨y, ys, h1, _, h3⟩ := hall; cases h1; cases h3
    | x :: y :: r, [] => simp only [impL, RepL] at hall; obtain ⟨_, _, h1, _⟩ := hall; cases h1
    | x :: y :: r, [v] => simp only [impL, RepL] at hall; obtain ⟨_, _, h1, _, _, _, h3, _⟩ := hall; cases h1; cases h3
    | x :: y :: r, v :: v' :: vs' => simp only [one', impV]; rw [Rep]; exact ⟨_, rfl, hall⟩
  · intro id b k hk
    obtain ⟨_, _, sz, id', len, _, hl'⟩ := hl id _ hk
    obtain ⟨h1, h2⟩ := h.range _ _ _ hl'
    obtain ⟨c, _, hc, _⟩ := exp_slc _ _ _ _ ‹_›
    rcases h1 (h.live _ _ hc) with h1 | h1
    · exact ⟨h1, h2⟩
    · obtain ⟨_, _, _, _, h1⟩ := h1; cases h1
  · intro id l hk
    obtain ⟨h1, h2, sz, id', len, hdj, hl'⟩ := hl id _ hk
    obtain ⟨c, c', hc, hc', hj, _⟩ := exp_slc _ _ _ _ hdj
    refine ⟨h1, h2, ?_⟩
    rw [htops]
    simp only [impC, hj, rowC, Option.isSome_some]
  · intro id id' b k k' hk hk'
    obtain ⟨h1, h2, sz, i1, len, hdj, hl1⟩ := hl id _ hk
    obtain ⟨h1', h2', sz', i2, len', hdj', hl2⟩ := hl id' _ hk'
    obtain ⟨c, _, hc, _⟩ := exp_slc _ _ _ _ hdj
    obtain ⟨c2, _, hc2, _⟩ := exp_slc _ _ _ _ hdj'
    have := h.inj _ _ _ _ _ _ _ hc hc2 hl1 hl2
    subst this
    have := distinct_get hd hdj hdj'
    obtain ⟨x, y, z⟩ := id
    obtain ⟨x', y', z'⟩ := id'
    simp only at h1 h2 h1' h2' this
    rw [h1, h2, h1', h2', this]
  · intro j c' hj
    rw [htops] at hj
    unfold impC at hj
    split at hj
    · rename_i d' hd'
      cases hdj : ds[j]? with
      | none => have := (mapO_get he j).2 hdj; rw [this] at hd'; cases hd'
      | some d =>
        obtain ⟨y, hy1, hy2⟩ := hr.get j d hdj
        have hp := part j d y d' hdj hy2 hd'
        cases d' <;> simp only [rowC, reduceCtorEq, Option.some.injEq] at hj
        rename_i mi sz c0 len
        subst hj
        -- the part is a row: so it was a slice of the call's own
        obtain ⟨y', h1, h2⟩ := (mapO_get he j).1 _ hdj
        rw [hd'] at h1
        cases h1
        cases d with
        | slc f sz0 id off len0 =>
          have hfo : f = true ∧ off = 0 := by
            cases f
            · simp [expD] at h2
            · cases off with
              | zero => exact ⟨rfl, rfl⟩
              | succ o => simp [expD] at h2
          obtain ⟨rfl, rfl⟩ := hfo
          obtain ⟨c, c', hc, hc', hj2, hlt⟩ := exp_slc _ _ _ _ hdj
          rw [hd'] at hj2
          simp only [Option.some.injEq, D.row.injEq] at hj2
          obtain ⟨_, _, rfl, _⟩ := hj2
          obtain ⟨l, xs, g1, g2, g3⟩ := h.mem id c hc
          exact ⟨l, xs, by rw [hat _ _ _ _ hdj]; exact g1, hdeep _ _ _ _ hc' g2, g3⟩
        | row => simp [expD] at h2
        | tup => simp [expD] at h2
        | junk => simp [expD, deep, depth] at h2
        | v x => simp [expD, deep, depth] at h2
        | ptr id off => obtain ⟨c, h3⟩ := deep_ptr (n := 11) h2; cases h3
        | ref m1 c1 off => obtain ⟨c, h3⟩ := deep_ref (n := 11) h2; cases h3
        | agg es => obtain ⟨c, h3⟩ := deep_agg (n := 11) h2; cases h3
        | fn f a1 b1 => obtain ⟨c, c', h3⟩ := deep_fn (n := 11) h2; cases h3
    · cases hj

/-- THE CONTRACT OF A FUNCTION, FROM ITS BODY. -/
theorem sat_of_wp (hm : P.follows .mixedOrders = true) (hT : TOk P T) {g : FuncId} {fn : Func} {c : Code} {args : List D} {res : D} (hf : P.funcs[g]? = some fn) (hb : fn.body = some c)
    (hname : (fn.name == "runtime.NumGoroutine") = false) {k : Nat} (hk : fn.ntmps = k) (hlen : Nat.ble args.length k = true) (hsmall : Nat.ble k lentKey = true) {rs : Array ResultVar} (hrs : fn.results = rs)
    (hcode : codeOk k c = true) (h : wp P T c (bodyQ T rs.toList res) (entry args)) : Sat P g args res := by
  refine ⟨⟨fn, c, hf, hb, hname⟩, fun w vs hr => ?_⟩
  have hal := hr.length
  have hlen' := Nat.le_of_ble_eq_true hlen
  refine calls_of_wp hf hb ?_
  have hinv : Inv P T k w noLoc (entry args) { tmps := ⟨vs⟩ ++ Array.replicate (fn.ntmps - (⟨vs⟩ : Array Value).size) undef, defers := [] } w noLoc := by
    refine ⟨hT, by simp [hk]; omega, Nat.le_of_ble_eq_true hsmall, rfl, ⟨rfl, rfl, rfl, Nat.le_refl _, fun _ _ _ => rfl, fun b k e fr hk => ⟨k, e, fr, hk, Nat.le_refl _⟩⟩, fun i => ?_, fun id c hc => by simp [entry] at hc, fun id l hl => by simp [noLoc] at hl, fun id b k hl => by simp [noLoc] at hl, fun id c hc => by simp [entry] at hc, fun _ _ => rfl, fun id id' c c' b k k' hc => by simp [entry] at hc⟩
    simp only [entry]
    rw [List.getD_eq_getElem?_getD]
    cases hd : args[i]? with
    | none => simp [Rep]
    | some d =>
      obtain ⟨y, h1, h2⟩ := hr.get i d hd
      have hlt : i < vs.length := (List.getElem?_eq_some_iff.1 h1).1
      have : (({ tmps := (⟨vs⟩ : Array Value) ++ Array.replicate (fn.ntmps - (⟨vs⟩ : Array Value).size) undef, defers := [] } : Act).tmps.getD i undef) = y := by
        rw [Array.getD_eq_getD_getElem?, Array.getElem?_append_left (by simpa using hlt)]
        simp [h1]
      rw [this]
      exact h2
  refine wp_sound hm c hcode _ _ _ _ _ _ h hinv ?_
  intro e x s' a' w' loc' he hq hi
  have fin : finQ T rs.toList res s' → a'.defers = [] ∧ ∃ v, (results fn a'.tmps).run P w' = .ok v w' ∧ (∃ y loc, Ending.returned v = .returned y ∧ RowKit.Below w.heap.size w w' ∧ ResRep w' w.heap.size res y loc) := by
    intro hq
    obtain ⟨ds, vs', ⟨h1, ds', h2, rfl⟩, h3, h4⟩ := resK_sound hi rs.toList _ hq
    obtain ⟨locr, hres⟩ := exp_sound hi h3 h1 h2
    refine ⟨hi.defers, _, run_results (by rw [hrs]; exact h4), _, locr, rfl, ?_, hres⟩
    exact ⟨hi.same.os, hi.same.tape, hi.same.output, hi.same.size, fun k hk => hi.same.block k hk (fun h => by obtain ⟨_, _, _, _, h⟩ := h; cases h)⟩
  cases e with
  | normal => cases he; exact fin hq
  | ret => cases he; exact fin hq
  | exit id => cases he; exact hq.elim
  | _ => cases he

end

/-- Types, out of a list. -/
def lk : List (Nat × TI) → Types
  | [], _ => none
  | (k, i) :: r, t => bif k == t then some i else lk r t
def ListOk (P : Program) : List (Nat × TI) → Prop
  | [] => True
  | (k, i) :: r => TIOk P k i ∧ ListOk P r
theorem TOk.of_list {P : Program} : ∀ {l : List (Nat × TI)}, ListOk P l → TOk P (lk l)
  | [], _, t, i, h => by simp [lk] at h
  | (k, j) :: r, hl, t, i, h => by
    simp only [lk] at h
    cases hk : (k == t) <;> simp only [hk, cond_true, cond_false] at h
    · exact TOk.of_list hl.2 t i h
    · simp only [beq_iff_eq] at hk
      simp only [Option.some.injEq] at h
      subst h; subst hk
      exact hl.1
end Go.V
