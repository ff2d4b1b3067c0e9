import Derived.Test.YtcnenmcagkbppaaW6
set_option linter.unusedVariables false
set_option linter.unusedSimpArgs false
/- Words for use: a loop by what some slots and blocks hold (their names may change from round to round). -/
set_option linter.unusedVariables false
set_option linter.unusedSimpArgs false
set_option linter.unusedSectionVars false
namespace Go.V
variable [Globs]

abbrev Rn := List (Id × Id)
def rnOf : Rn → Id → Option Id
  | [], _ => none
  | (i, j) :: r, id => bif (id.1 == i.1 && (id.2.1 == i.2.1 && id.2.2 == i.2.2)) then some j else rnOf r id
/-- A name for a block that is not there: of a nil slice. -/
def nilKey : Nat := 2000000
abbrev nilId : Id := (nilKey, 0, 0)
/-- The other name of a block; lent ones keep theirs. -/
def rnAt (rn : Rn) (id : Id) : Option Id := bif Nat.ble lentKey id.1 then (bif id.1 == nilKey then none else some id) else rnOf rn id
def mOf (s : St) (j : Id) : Option D := bif j.1 == nilKey then some (.v (.agg ⟨[]⟩)) else s.m j
/-- A value with other names for its blocks. -/
def renD (rn : Rn) : Nat → D → Option D
  | 0, _ => none
  | n + 1, d =>
    match d with
    | .junk => some .junk
    | .mp => some .mp
    | .v x => some (.v x)
    | .ptr id off => (match rnAt rn id with | some j => (bif j.1 == nilKey then none else some (.ptr j off)) | none => none)
    | .slc f sz id off len => (match rnAt rn id with | some j => (bif j.1 == nilKey then (bif off == 0 && len == 0 then some (.v (.slice none 0 0)) else none) else some (.slc f sz j off len)) | none => none)
    | .ref m c off => (match renD rn n c with | some c' => some (.ref m c' off) | none => none)
    | .row m sz c len => (match renD rn n c with | some c' => some (.row m sz c' len) | none => none)
    | .agg ds => (match mapO (renD rn n) ds with | some ds' => some (.agg ds') | none => none)
    | .tup ds => (match mapO (renD rn n) ds with | some ds' => some (.tup ds') | none => none)
    | .fn f a b => (match mapO (renD rn n) a with
      | some a' => (match mapO (renD rn n) b with | some b' => some (.fn f a' b') | none => none)
      | none => none)

def updL (l : List (Nat × D)) : Nat → D :=
  match l with
  | [] => fun _ => .junk
  | (i, d) :: r => upd (updL r) i d
def updML (l : List (Id × D)) : Id → Option D :=
  match l with
  | [] => fun _ => none
  | (i, d) :: r => updI (updML r) i (some d)
/-- The state in which some slots and some blocks are known. -/
def stOf (ls : List (Nat × D)) (ms : List (Id × D)) : St := ⟨updL ls, updML ms, fun _ => 1⟩
/-- The same for a function to which nothing is lent. -/
def oneS : Nat → Nat := fun i => bif i == lentKey then 7 else 1
def stOfS (ls : List (Nat × D)) (ms : List (Id × D)) : St := ⟨updL ls, updML ms, oneS⟩
def Holds (rn : Rn) (s : St) : List (Nat × D) → Prop
  | [] => True
  | (i, d) :: r => renD rn depth d = some (s.t i) ∧ Holds rn s r
def HoldsM (rn : Rn) (s : St) : List (Id × D) → Prop
  | [] => True
  | (i, d) :: r => (∃ j c, rnAt rn i = some j ∧ renD rn depth d = some c ∧ mOf s j = some c) ∧ HoldsM rn s r
def rnIds (rn : Rn) : List Id := (rn.map (·.2)).filter fun j => Nat.blt j.1 lentKey
def rnOk (rn : Rn) : Bool := distinct (rnIds rn) && rn.all fun p => p.1.2.1 == 0 && Nat.blt p.1.1 lentKey && (Nat.blt p.2.1 lentKey || p.2.1 == nilKey)

section
variable {w : World} {base : Nat} {loc : Loc} {rn : Rn}

theorem rnOf_mem {id j : Id} : ∀ {rn : Rn}, rnOf rn id = some j → (id, j) ∈ rn
  | [], h => by simp [rnOf] at h
  | (i, k) :: r, h => by
    simp only [rnOf] at h
    cases hc : (id.1 == i.1 && (id.2.1 == i.2.1 && id.2.2 == i.2.2)) <;> simp only [hc, cond_true, cond_false] at h
    · exact List.mem_cons_of_mem _ (rnOf_mem h)
    · simp only [Bool.and_eq_true, beq_iff_eq] at hc
      simp only [Option.some.injEq] at h
      subst h
      obtain ⟨x, y, z⟩ := id
      obtain ⟨x', y', z'⟩ := i
      simp only at hc
      rw [hc.1, hc.2.1, hc.2.2]
      simp

theorem rnIds_cons (a b : Id) (r : Rn) : rnIds ((a, b) :: r) = if b.1 < lentKey then b :: rnIds r else rnIds r := by
  unfold rnIds
  simp only [List.map_cons, List.filter_cons, blt_eq, decide_eq_true_eq]
theorem distinct_inj : ∀ {rn : Rn}, distinct (rnIds rn) = true → ∀ {i i' j : Id}, j.1 < lentKey → rnOf rn i = some j → rnOf rn i' = some j → i = i'
  | [], _, i, i', j, _, h, _ => by simp [rnOf] at h
  | (a, b) :: r, hd, i, i', j, hlt, h, h' => by
    have hd' : distinct (rnIds r) = true := by
      rw [rnIds_cons] at hd
      split at hd
      · simp only [distinct, Bool.and_eq_true] at hd; exact hd.2
      · exact hd
    have hnot : b.1 < lentKey → ∀ x, rnOf r x = some b → False := fun hb x hx => by
      rw [rnIds_cons, if_pos hb] at hd
      simp only [distinct, Bool.and_eq_true, Bool.not_eq_true'] at hd
      have := rnOf_mem hx
      have hm : b ∈ rnIds r := by
        unfold rnIds
        rw [List.mem_filter]
        exact ⟨List.mem_map.2 ⟨_, this, rfl⟩, by rw [blt_eq]; simpa using hb⟩
      have := idIn_iff.2 hm
      rw [hd.1] at this
      cases this
    have eqa : ∀ x : Id, (x.1 == a.1 && (x.2.1 == a.2.1 && x.2.2 == a.2.2)) = true → x = a := by
      intro x hx
      simp only [Bool.and_eq_true, beq_iff_eq] at hx
      obtain ⟨p, q, s⟩ := x
      obtain ⟨p', q', s'⟩ := a
      simp only at hx
      rw [hx.1, hx.2.1, hx.2.2]
    simp only [rnOf] at h h'
    cases hc : (i.1 == a.1 && (i.2.1 == a.2.1 && i.2.2 == a.2.2)) <;> cases hc' : (i'.1 == a.1 && (i'.2.1 == a.2.1 && i'.2.2 == a.2.2)) <;> simp only [hc, hc', cond_true, cond_false] at h h'
    · exact distinct_inj (rn := r) hd' hlt h h'
    · simp only [Option.some.injEq] at h'; subst h'; exact (hnot hlt _ h).elim
    · simp only [Option.some.injEq] at h; subst h; exact (hnot hlt _ h').elim
    · rw [eqa _ hc, eqa _ hc']

/-- Where the blocks lie, by their other names. -/
def locOf (loc : Loc) (rn : Rn) : Loc := fun id => bif Nat.ble lentKey id.1 then loc id else (match rnOf rn id with
  | some j => (bif j.1 == nilKey then some (none, 0) else loc j)
  | none => none)
theorem locOf_at {id j : Id} (h : rnAt rn id = some j) (hz : (j.1 == nilKey) = false) : locOf loc rn id = loc j := by
  unfold rnAt at h
  unfold locOf
  cases hc : Nat.ble lentKey id.1 <;> simp only [hc, cond_true, cond_false] at h ⊢
  · rw [h]; simp only [hz, cond_false]
  · cases hn : (id.1 == nilKey) <;> simp only [hn, cond_true, cond_false] at h
    · simp only [Option.some.injEq] at h; rw [h]
    · cases h
theorem locOf_nil {id j : Id} (h : rnAt rn id = some j) (hz : (j.1 == nilKey) = true) : locOf loc rn id = some (none, 0) := by
  unfold rnAt at h
  unfold locOf
  cases hc : Nat.ble lentKey id.1 <;> simp only [hc, cond_true, cond_false] at h ⊢
  · rw [h]; simp only [hz, cond_true]
  · cases hn : (id.1 == nilKey) <;> simp only [hn, cond_true, cond_false] at h
    · simp only [Option.some.injEq] at h; subst h; rw [hn] at hz; cases hz
    · cases h

theorem renD_sound : ∀ (n : Nat) (d d' : D) (y : Value), renD rn n d = some d' → Rep w base loc d' y → Rep w base (locOf loc rn) d y
  | 0, d, d', y, h, _ => by simp [renD] at h
  | n + 1, d, d', y, h, hr => by
    have ih := renD_sound n
    have hav : ∀ b, loc.avoids b → (locOf loc rn).avoids b := by
      intro b hv id k hk
      unfold locOf at hk
      cases hc : Nat.ble lentKey id.1 <;> simp only [hc, cond_true, cond_false] at hk
      · cases hj : rnOf rn id with
        | none => rw [hj] at hk; cases hk
        | some j =>
          rw [hj] at hk
          simp only at hk
          cases hz : (j.1 == nilKey) <;> simp only [hz, cond_true, cond_false] at hk
          · exact hv _ _ hk
          · simp at hk
      · exact hv _ _ hk
    have ihL : ∀ (ds ds' : List D) (vs : List Value), mapO (renD rn n) ds = some ds' → RepL w base loc ds' vs → RepL w base (locOf loc rn) ds vs := by
      intro ds
      induction ds with
      | nil => intro ds' vs hm hr; simp only [mapO, Option.some.injEq] at hm; subst hm; simpa only [RepL] using hr
      | cons x ds ihd =>
        intro ds' vs hm hr
        simp only [mapO] at hm
        split at hm
        · rename_i z hz
          split at hm
          · rename_i zs hzs
            simp only [Option.some.injEq] at hm
            subst hm
            simp only [RepL] at hr ⊢
            obtain ⟨u, us, h1, h2, h3⟩ := hr
            exact ⟨u, us, h1, ih _ _ _ hz h2, ihd _ _ hzs h3⟩
          · simp at hm
        · simp at hm
    cases d with
    | junk => simp only [renD, Option.some.injEq] at h; subst h; simp only [Rep]
    | mp => simp only [renD, Option.some.injEq] at h; subst h; simpa only [Rep] using hr
    | v x => simp only [renD, Option.some.injEq] at h; subst h; simpa only [Rep] using hr
    | ptr id off =>
      simp only [renD] at h
      split at h
      · rename_i j hj
        cases hz : (j.1 == nilKey) <;> simp only [hz, cond_true, cond_false] at h
        · simp only [Option.some.injEq] at h
          subst h
          simp only [Rep] at hr ⊢
          obtain ⟨b, k, h1, h2⟩ := hr
          exact ⟨b, k, by rw [locOf_at hj hz]; exact h1, h2⟩
        · cases h
      · cases h
    | slc f sz id off len =>
      simp only [renD] at h
      split at h
      · rename_i j hj
        cases hz : (j.1 == nilKey) <;> simp only [hz, cond_true, cond_false] at h
        · simp only [Option.some.injEq] at h
          subst h
          simp only [Rep] at hr ⊢
          obtain ⟨a, cap, l, k, h1, h2, h3, h4⟩ := hr
          exact ⟨a, cap, l, k, h1, h2, by rw [locOf_at hj hz]; exact h3, h4⟩
        · cases hq : (off == 0 && len == 0) <;> simp only [hq, cond_true, cond_false] at h
          · cases h
          · simp only [Option.some.injEq] at h
            subst h
            simp only [Bool.and_eq_true, beq_iff_eq] at hq
            obtain ⟨rfl, rfl⟩ := hq
            simp only [Rep] at hr ⊢
            exact ⟨none, 0, none, 0, hr.1, Nat.le_refl _, by rw [locOf_nil hj hz], by simp, by simp, by simp⟩
      · cases h
    | ref m c off =>
      simp only [renD] at h
      split at h
      · rename_i c' hc
        simp only [Option.some.injEq] at h
        subst h
        simp only [Rep] at hr ⊢
        obtain ⟨b, o, xs, h1, h2, h3, h4, h5⟩ := hr
        exact ⟨b, o, xs, h1, h2, hav b h3, h4, ih _ _ _ hc h5⟩
      · cases h
    | row m sz c len =>
      simp only [renD] at h
      split at h
      · rename_i c' hc
        simp only [Option.some.injEq] at h
        subst h
        simp only [Rep] at hr ⊢
        obtain ⟨a, cap, xs, h1, h2, h3, h4, h5, hO⟩ := hr
        refine ⟨a, cap, xs, h1, h2, ih _ _ _ hc h3, h4, ?_, fun hm => ?_⟩
        rotate_left
        · rcases hO hm with hO | ⟨b, k, e, q1, q2, q3⟩
          · exact .inl hO
          · exact .inr ⟨b, k, e, q1, hav b q2, q3⟩
        rcases h5 with h5 | ⟨b, o, g1, g2, g3, g4⟩
        · exact .inl h5
        · exact .inr ⟨b, o, g1, g2, hav b g3, g4⟩
      · cases h
    | agg ds =>
      simp only [renD] at h
      split at h
      · rename_i ds' hds
        simp only [Option.some.injEq] at h
        subst h
        simp only [Rep] at hr ⊢
        obtain ⟨vs, h1, h2, h3⟩ := hr
        exact ⟨vs, h1, ihL _ _ _ hds h2, h3⟩
      · cases h
    | tup ds =>
      simp only [renD] at h
      split at h
      · rename_i ds' hds
        simp only [Option.some.injEq] at h
        subst h
        simp only [Rep] at hr ⊢
        obtain ⟨vs, h1, h2⟩ := hr
        exact ⟨vs, h1, ihL _ _ _ hds h2⟩
      · cases h
    | fn f a b =>
      simp only [renD] at h
      split at h
      · rename_i a' ha
        split at h
        · rename_i b' hb
          simp only [Option.some.injEq] at h
          subst h
          simp only [Rep] at hr ⊢
          obtain ⟨va, vb, h1, h2, h3⟩ := hr
          exact ⟨va, vb, h1, ihL _ _ _ ha h2, ihL _ _ _ hb h3⟩
        · cases h
      · cases h

theorem updL_get {s : St} : ∀ {l : List (Nat × D)}, Holds rn s l → ∀ i, updL l i = .junk ∨ renD rn depth (updL l i) = some (s.t i)
  | [], _, i => .inl rfl
  | (j, d) :: r, h, i => by
    simp only [updL]
    rw [upd_eq]
    split
    · rename_i e; subst e; exact .inr h.1
    · exact updL_get h.2 i
theorem updML_get {s : St} : ∀ {l : List (Id × D)}, HoldsM rn s l → ∀ i c, updML l i = some c → ∃ j c', rnAt rn i = some j ∧ renD rn depth c = some c' ∧ mOf s j = some c'
  | [], _, i, c, h => by simp [updML] at h
  | (j, d) :: r, hh, i, c, h => by
    simp only [updML] at h
    rw [updI_eq] at h
    split at h
    · rename_i e
      simp only [Option.some.injEq] at h
      subst h; subst e
      exact hh.1
    · exact updML_get hh.2 i c h

theorem sim_ofC {s : St} {ls : List (Nat × D)} {ms : List (Id × D)} (cc : Nat → Nat) (hc1 : ∀ i, i < lentKey → cc i = 1) (hc7 : cc lentKey = 7 → s.c lentKey = 7) (hok : rnOk rn = true) (h1 : Holds rn s ls) (h2 : HoldsM rn s ms) : Sim s ⟨updL ls, updML ms, cc⟩ := by
  intro P T n w0 bs l0 a w loc h
  simp only [rnOk, Bool.and_eq_true] at hok
  obtain ⟨hd, hall⟩ := hok
  have hrow : ∀ i j, rnOf rn i = some j → i.2.1 = 0 ∧ i.1 < lentKey ∧ (j.1 < lentKey ∨ j.1 = nilKey) := by
    intro i j hij
    have := List.all_eq_true.1 hall _ (rnOf_mem hij)
    simp only [Bool.and_eq_true, beq_iff_eq, blt_eq, decide_eq_true_iff, Bool.or_eq_true] at this
    exact ⟨this.1.1, this.1.2, this.2⟩
  have hloc : ∀ i l, i.1 < lentKey → locOf loc rn i = some l → ∃ j, rnOf rn i = some j ∧ ((j.1 = nilKey ∧ l = (none, 0)) ∨ (j.1 < lentKey ∧ loc j = some l)) := by
    intro i l hlt hl
    unfold locOf at hl
    have hc : Nat.ble lentKey i.1 = false := by rw [Bool.eq_false_iff]; intro e; have := Nat.le_of_ble_eq_true e; omega
    rw [hc] at hl
    simp only [cond_false] at hl
    cases hj : rnOf rn i with
    | none => rw [hj] at hl; cases hl
    | some j =>
      rw [hj] at hl
      simp only at hl
      cases hz : (j.1 == nilKey) <;> simp only [hz, cond_true, cond_false] at hl
      · refine ⟨j, rfl, .inr ⟨?_, hl⟩⟩
        rcases (hrow i j hj).2.2 with h | h
        · exact h
        · rw [beq_eq_false_iff_ne] at hz; exact (hz h).elim
      · exact ⟨j, rfl, .inl ⟨by simpa using hz, by simpa using hl.symm⟩⟩
  have hhigh : ∀ i, lentKey ≤ i.1 → locOf loc rn i = loc i := by
    intro i hi
    unfold locOf
    rw [ble_true hi]; rfl
  have hat : ∀ i j, rnAt rn i = some j → (lentKey ≤ i.1 ∧ j = i) ∨ (i.1 < lentKey ∧ rnOf rn i = some j) := by
    intro i j hj
    unfold rnAt at hj
    cases hc : Nat.ble lentKey i.1 <;> simp only [hc, cond_true, cond_false] at hj
    · refine .inr ⟨?_, hj⟩
      rcases Nat.lt_or_ge i.1 lentKey with h | h
      · exact h
      · rw [ble_true h] at hc; cases hc
    · cases hn : (i.1 == nilKey) <;> simp only [hn, cond_true, cond_false] at hj
      · simp only [Option.some.injEq] at hj; exact .inl ⟨Nat.le_of_ble_eq_true hc, hj.symm⟩
      · cases hj
  refine ⟨locOf loc rn, h.types, h.low, (fun e => h.solo (hc7 e)), h.size, h.small, h.defers, h.same, fun i => ?_, fun id c hc => ?_, fun id l hl hk => ?_, fun id b k hl => ?_, fun id c hc => ?_, fun id hid => ?_, fun id id' c c' b k k' hc hc' hl hl' => ?_, h.glob.loc fun g hv id k hl => ?_⟩
  · show Rep w bs (locOf loc rn) (updL ls i) (a.tmps.getD i undef)
    rcases updL_get h1 i with hj | hj
    · rw [hj]; simp [Rep]
    · exact renD_sound _ _ _ _ hj (h.tmp i)
  · obtain ⟨j, c', g1, g2, g3⟩ := updML_get h2 id c hc
    unfold mOf at g3
    cases hz : (j.1 == nilKey) <;> simp only [hz, cond_true, cond_false] at g3
    · obtain ⟨l, xs, k1, k2, k3⟩ := h.mem j c' g3
      exact ⟨l, xs, by rw [locOf_at g1 hz]; exact k1, renD_sound _ _ _ _ g2 k2, k3⟩
    · simp only [Option.some.injEq] at g3
      subst g3
      refine ⟨none, [], by rw [locOf_nil g1 hz]; rfl, renD_sound _ _ _ _ g2 ?_, rfl⟩
      simp only [Rep]
      exact ⟨trivial, rfl⟩
  · obtain ⟨j, g1, _⟩ := hloc id l hk hl
    have := (hrow _ _ g1).1
    show id.2.1 < cc id.1
    rw [hc1 _ hk]
    omega
  · rcases Nat.lt_or_ge id.1 lentKey with hlt | hge
    · obtain ⟨j, _, g2 | g2⟩ := hloc id _ hlt hl
      · simp at g2
      · have := h.range _ _ _ g2.2
        exact ⟨fun _ => this.1 (Nat.lt_trans g2.1 (by decide)), this.2⟩
    · rw [hhigh _ hge] at hl
      exact h.range _ _ _ hl
  · obtain ⟨j, d, g1, _, g3⟩ := updML_get h2 id c hc
    rcases hat _ _ g1 with ⟨q1, rfl⟩ | ⟨q1, _⟩
    · unfold mOf at g3
      cases hz : (j.1 == nilKey) <;> simp only [hz, cond_true, cond_false] at g3
      · exact h.live _ _ g3
      · simp only [beq_iff_eq] at hz; rw [hz]; decide
    · exact Nat.lt_trans q1 (by decide)
  · rw [hhigh _ hid]; exact h.lent id hid
  · obtain ⟨j, d, g1, _, g3⟩ := updML_get h2 id c hc
    obtain ⟨j', d', g1', _, g3'⟩ := updML_get h2 id' c' hc'
    have res : ∀ (id j : Id) (d : D) (k : Nat), rnAt rn id = some j → mOf s j = some d → locOf loc rn id = some (some b, k) → s.m j = some d ∧ loc j = some (some b, k) ∧ ((lentKey ≤ id.1 ∧ j = id) ∨ (id.1 < lentKey ∧ j.1 < lentKey ∧ rnOf rn id = some j)) := by
      intro id j d k g1 g3 hl
      cases hz : (j.1 == nilKey)
      · rw [locOf_at g1 hz] at hl
        unfold mOf at g3
        rw [hz] at g3
        refine ⟨g3, hl, ?_⟩
        rcases hat _ _ g1 with q | ⟨q1, q2⟩
        · exact .inl q
        · refine .inr ⟨q1, ?_, q2⟩
          rcases (hrow _ _ q2).2.2 with q | q
          · exact q
          · rw [beq_eq_false_iff_ne] at hz; exact (hz q).elim
      · rw [locOf_nil g1 hz] at hl; simp at hl
    obtain ⟨p1, p2, p3⟩ := res id j d k g1 g3 hl
    obtain ⟨p1', p2', p3'⟩ := res id' j' d' k' g1' g3' hl'
    have := h.inj _ _ _ _ _ _ _ p1 p1' p2 p2'
    subst this
    rcases p3 with ⟨q1, rfl⟩ | ⟨q1, q2, q3⟩ <;> rcases p3' with ⟨q1', q'⟩ | ⟨q1', q2', q3'⟩
    · exact q'
    · omega
    · subst q'; omega
    · exact distinct_inj hd q2 q3 q3'
  · rcases Nat.lt_or_ge id.1 lentKey with hlt | hge
    · obtain ⟨j, _, g2 | g2⟩ := hloc id _ hlt hl
      · simp at g2
      · exact hv _ _ g2.2
    · rw [hhigh _ hge] at hl
      exact hv _ _ hl
theorem sim_of {s : St} {ls : List (Nat × D)} {ms : List (Id × D)} (hok : rnOk rn = true) (h1 : Holds rn s ls) (h2 : HoldsM rn s ms) : Sim s (stOf ls ms) :=
  sim_ofC (fun _ => 1) (fun _ _ => rfl) (fun e => by simp at e) hok h1 h2
theorem sim_ofS {s : St} {ls : List (Nat × D)} {ms : List (Id × D)} (hs : s.c lentKey = 7) (hok : rnOk rn = true) (h1 : Holds rn s ls) (h2 : HoldsM rn s ms) : Sim s (stOfS ls ms) :=
  sim_ofC oneS (fun i hi => by unfold oneS; have : (i == lentKey) = false := by simp; omega
                               rw [this]; rfl) (fun _ => hs) hok h1 h2
end

/-- What a round hands on. -/
def Next {α : Type} (ls : α → List (Nat × D)) (ms : α → List (Id × D)) (ok : α → Prop) (μ : α → Nat) (x : α) (s : St) : Prop :=
  ∃ y : α, μ y < μ x ∧ ok y ∧ Sim s (stOf (ls y) (ms y))

/-- A LOOP: 'ls' tells slots, 'ms' blocks, of some ghost 'x'; a measure. -/
theorem loop_rule {P : Program} {T : Types} {c : Code} {Q : Ex → St → Prop} {s : St} {α : Type} (ls : α → List (Nat × D)) (ms : α → List (Id × D)) (ok : α → Prop) (μ : α → Nat) (x0 : α)
    (h0 : ok x0) (hs : Sim s (stOf (ls x0) (ms x0)))
    (round : ∀ x, ok x → wp P T c (Ex.seq (Next ls ms ok μ x) Q) (stOf (ls x) (ms x))) : wp P T (.loop c) Q s := by
  refine ⟨fun k s => ∃ x, k = μ x ∧ ok x ∧ s = stOf (ls x) (ms x), ⟨μ x0, _, hs, x0, rfl, h0, rfl⟩, ?_⟩
  rintro k s ⟨x, rfl, hok, rfl⟩
  have conv : Next ls ms ok μ x = fun s' => ∃ k' s2, k' < μ x ∧ Sim s' s2 ∧ ∃ x_1, k' = μ x_1 ∧ ok x_1 ∧ s2 = stOf (ls x_1) (ms x_1) := by
    funext s'
    simp only [Next, eq_iff_iff]
    constructor
    · rintro ⟨y, h1, h2, h3⟩; exact ⟨_, _, h1, h3, y, rfl, h2, rfl⟩
    · rintro ⟨_, _, h1, h3, y, rfl, h2, rfl⟩; exact ⟨y, h1, h2, h3⟩
  have := round x hok
  rw [conv] at this
  exact this

/-- The same for a function to which nothing is lent. -/
def NextS {α : Type} (ls : α → List (Nat × D)) (ms : α → List (Id × D)) (ok : α → Prop) (μ : α → Nat) (x : α) (s : St) : Prop :=
  ∃ y : α, μ y < μ x ∧ ok y ∧ Sim s (stOfS (ls y) (ms y))
theorem loop_ruleS {P : Program} {T : Types} {c : Code} {Q : Ex → St → Prop} {s : St} {α : Type} (ls : α → List (Nat × D)) (ms : α → List (Id × D)) (ok : α → Prop) (μ : α → Nat) (x0 : α)
    (h0 : ok x0) (hs : Sim s (stOfS (ls x0) (ms x0)))
    (round : ∀ x, ok x → wp P T c (Ex.seq (NextS ls ms ok μ x) Q) (stOfS (ls x) (ms x))) : wp P T (.loop c) Q s := by
  refine ⟨fun k s => ∃ x, k = μ x ∧ ok x ∧ s = stOfS (ls x) (ms x), ⟨μ x0, _, hs, x0, rfl, h0, rfl⟩, ?_⟩
  rintro k s ⟨x, rfl, hok, rfl⟩
  have conv : NextS ls ms ok μ x = fun s' => ∃ k' s2, k' < μ x ∧ Sim s' s2 ∧ ∃ x_1, k' = μ x_1 ∧ ok x_1 ∧ s2 = stOfS (ls x_1) (ms x_1) := by
    funext s'
    simp only [NextS, eq_iff_iff]
    constructor
    · rintro ⟨y, h1, h2, h3⟩; exact ⟨_, _, h1, h3, y, rfl, h2, rfl⟩
    · rintro ⟨_, _, h1, h3, y, rfl, h2, rfl⟩; exact ⟨y, h1, h2, h3⟩
  have := round x hok
  rw [conv] at this
  exact this

theorem vint {k : IntKind} {a b : Int} (h : a = b) : D.v (.int k a) = D.v (.int k b) := by rw [h]
end Go.V
/- Small words for the walks: a branch on a truth value, a call by equal arguments. -/
set_option linter.unusedVariables false
set_option linter.unusedSimpArgs false
set_option linter.unusedSectionVars false
namespace Go.V
variable [Globs]
theorem bsplit {b : Bool} {P Q : Prop} (h0 : b = false → Q) (h1 : b = true → P) : (match (generalizing := false) b with | true => P | false => Q) := by
  cases b
  · exact h0 rfl
  · exact h1 rfl
theorem bsplitT {b : Bool} {P Q : Prop} (h1 : b = true → P) (h0 : b = false → Q) : (match (generalizing := false) b with | true => P | false => Q) := bsplit h0 h1
theorem Sat.of_eq {P : Program} {g : FuncId} {args args' : List D} {res : D} (h : Sat P g args res) (e : args' = args) : Sat P g args' res := by rw [e]; exact h
theorem Sat.res_eq {P : Program} {g : FuncId} {args : List D} {res res' : D} (h : Sat P g args res) (e : res = res') : Sat P g args res' := by rw [← e]; exact h
theorem take_full {α : Type} {l : List α} {n : Nat} (h : l.length ≤ n) : l.take n = l := List.take_of_length_le h
theorem ceq {a b : D} {l m : List D} (h : a = b) (h2 : l = m) : a :: l = b :: m := by rw [h, h2]
theorem vfull {l : List Value} {n : Nat} (h : l.length ≤ n) : D.v (.agg ⟨(l.drop 0).take n⟩) = D.v (.agg ⟨l⟩) := by rw [List.drop_zero, take_full h]
theorem rfull {l : List Value} {n sz k : Nat} {m : Bool} (h : l.length ≤ n) : D.row m sz (.v (.agg ⟨(l.drop 0).take n⟩)) k = D.row m sz (.v (.agg ⟨l⟩)) k := by rw [List.drop_zero, take_full h]
theorem vintS {k : IntKind} {a b : Int} (h : a = b) : some (D.v (.int k a)) = some (D.v (.int k b)) := by rw [h]
theorem vslcS {f : Bool} {sz : Nat} {id : Id} {o l l' : Nat} (h : l = l') : some (D.slc f sz id o l) = some (D.slc f sz id o l') := by rw [h]
theorem vptrS {id : Id} {o o' : Nat} (h : o = o') : some (D.ptr id o) = some (D.ptr id o') := by rw [h]
theorem vstrS {a b : ByteArray} (h : a = b) : some (D.v (.string a)) = some (D.v (.string b)) := by rw [h]
theorem vboolS {a b : Bool} (h : a = b) : some (D.v (.bool a)) = some (D.v (.bool b)) := by rw [h]
end Go.V
/- The contract of a function that writes to blocks that are lent to it, from the weakest precondition of its body. -/
set_option linter.unusedVariables false
set_option linter.unusedSimpArgs false
set_option linter.unusedSectionVars false
namespace Go.V
variable [Globs]

/-- The state at the begin of a function to which blocks are lent. -/
def entryM (args ms : List D) : St := { t := fun i => args.getD i .junk, m := lentM ms, c := fun _ => 0 }
/-- The names behind the call: lent blocks keep theirs, some of the call's own are the new ones. -/
def outF (ro : List Id) (id : Id) : Option Id := bif Nat.ble lentKey id.1 then some id else (match findId ro id 0 with | some j => some (0, 0, j) | none => none)
def lentOk (m : Id → Option D) (f : Id → Option Id) : Nat → List (Option D) → Prop
  | _, [] => True
  | k, none :: r => lentOk m f (k + 1) r
  | k, some c :: r => (∃ c0, m (lentId k) = some c0 ∧ mapD true f depth c0 = some c) ∧ lentOk m f (k + 1) r
def newC (m : Id → Option D) (f : Id → Option Id) (id : Id) : Option D := match m id with | some c => mapD true f depth c | none => none
def finQM (T : Types) (rs : List ResultVar) (res : D) (ms' : List (Option D)) (news : List D) (s : St) : Prop :=
  resK T s rs fun ds => ∃ (ro : List Id) (ds' : List D), distinctIds ro = true ∧ (ro.all fun id => Nat.blt id.1 lentKey) = true ∧ mapO (mapD true (outF ro) depth) ds = some ds' ∧ res = one' ds' ∧
    lentOk s.m (outF ro) 0 ms' ∧ mapO (newC s.m (outF ro)) ro = some news
def bodyQM (T : Types) (rs : List ResultVar) (res : D) (ms' : List (Option D)) (news : List D) : Ex → St → Prop
  | .normal, s => finQM T rs res ms' news s
  | .ret, s => finQM T rs res ms' news s
  | .exit _, _ => False

theorem lentOk_get {m : Id → Option D} {f : Id → Option Id} : ∀ {ms : List (Option D)} {k0 : Nat}, lentOk m f k0 ms → ∀ {k : Nat} {c : D}, ms[k]? = some (some c) → ∃ c0, m (lentId (k0 + k)) = some c0 ∧ mapD true f depth c0 = some c
  | [], k0, _, k, c, h => by simp at h
  | none :: r, k0, hl, k, c, h => by
    cases k with
    | zero => simp at h
    | succ k =>
      have := lentOk_get (ms := r) hl (k := k) (by simpa using h)
      rw [show k0 + (k + 1) = k0 + 1 + k by omega]
      exact this
  | some x :: r, k0, hl, k, c, h => by
    cases k with
    | zero => simp at h; subst h; exact hl.1
    | succ k =>
      have := lentOk_get (ms := r) hl.2 (k := k) (by simpa using h)
      rw [show k0 + (k + 1) = k0 + 1 + k by omega]
      exact this
theorem rep_one {w : World} {base : Nat} {loc : Loc} : ∀ {ds : List D} {vs : List Value}, RepL w base loc ds vs → Rep w base loc (one' ds) (joinV vs)
  | [], vs, h => by simp only [RepL] at h; subst h; simp [one', joinV, Rep, RepL]
  | [d], vs, h => by
    simp only [RepL] at h
    obtain ⟨y, ys, rfl, h1, rfl⟩ := h
    exact h1
  | d :: e :: r, vs, h => by
    have hl := h.length
    match vs, h, hl with
    | [], _, hl => simp at hl
    | [v], _, hl => simp at hl
    | v :: v' :: vs', h, _ => simp only [one']; rw [Rep]; exact ⟨_, rfl, h⟩

section
variable {P : Program} {T : Types}

/-- THE CONTRACT, FROM THE BODY. -/
theorem satB_of_wp {low : Bool} (hlow : low = false ∨ ∀ t i, T t = some i → ∀ k, i.u ≠ .map k) (hm : P.follows .mixedOrders = true) (hT : TOk P T) {g : FuncId} {fn : Func} {c : Code} {args ms : List D} {res : D} {ms' : List (Option D)} {news : List D} (hf : P.funcs[g]? = some fn) (hb : fn.body = some c)
    (hname : (fn.name == "runtime.NumGoroutine") = false) {k : Nat} (hk : fn.ntmps = k) (hlen : Nat.ble args.length k = true) (hsmall : Nat.ble k lentKey = true) {rs : Array ResultVar} (hrs : fn.results = rs)
    (hcode : codeOk k c = true) (h : wp P T c (bodyQM T rs.toList res ms' news) (entryM args ms)) : SatB low P g args ms res ms' news := by
  refine ⟨⟨fn, c, hf, hb, hname⟩, fun w vs l0 bs hbs hbl hgl hlt hr => ?_⟩
  have hal := hr.length
  have hlen' := Nat.le_of_ble_eq_true hlen
  refine calls_of_wp hf hb ?_
  have hinv : Inv P T k w bs l0 (entryM args ms) { tmps := ⟨vs⟩ ++ Array.replicate (fn.ntmps - (⟨vs⟩ : Array Value).size) undef, defers := [] } w l0 := by
    refine ⟨hT, ⟨hbs, hlow.imp hbl id, hgl.lt⟩, (fun e => by simp [entryM] at e), by simp [hk]; omega, Nat.le_of_ble_eq_true hsmall, rfl, ⟨rfl, rfl, rfl, Nat.le_refl _, fun _ _ _ => rfl, fun b k e fr hk => ⟨k, e, fr, hk, Nat.le_refl _⟩, fun _ _ _ hk => hk⟩, fun i => ?_, hlt.mem,
      fun id l hl hk => ?_, fun id b k hl => ⟨fun hg => .inr ⟨id, k, hlt.dom _ _ hl, hg, hl⟩, hlt.range _ _ _ hl⟩, fun id c hc => ?_, fun _ _ => rfl, hlt.inj, hgl⟩
    · simp only [entryM]
      rw [List.getD_eq_getElem?_getD]
      cases hd : args[i]? with
      | none => simp [Rep]
      | some d =>
        obtain ⟨y, h1, h2⟩ := hr.get i d hd
        have hltv : i < vs.length := (List.getElem?_eq_some_iff.1 h1).1
        have : (({ tmps := (⟨vs⟩ : Array Value) ++ Array.replicate (fn.ntmps - (⟨vs⟩ : Array Value).size) undef, defers := [] } : Act).tmps.getD i undef) = y := by
          rw [Array.getD_eq_getD_getElem?, Array.getElem?_append_left (by simpa using hltv)]
          simp [h1]
        rw [this]
        exact h2
    · have := hlt.dom _ _ hl; omega
    · obtain ⟨_, _, _, h3⟩ := lentM_some hc; exact h3
  refine wp_sound hm c hcode _ _ _ _ _ _ h hinv ?_
  intro e x s' a' w' loc' he hq hi
  have fin : finQM T rs.toList res ms' news s' → a'.defers = [] ∧ ∃ v, (results fn a'.tmps).run P w' = .ok v w' ∧ (∃ y loc, Ending.returned v = .returned y ∧ Back w w' bs l0 res ms' news y loc) := by
    intro hq
    obtain ⟨ds, vs', ⟨ro, ds', g1, g2, g3, rfl, g5, g6⟩, h3, h4⟩ := resK_sound hi rs.toList _ hq
    have hlow : ∀ (j : Nat) (id : Id), ro[j]? = some id → id.1 < lentKey := by
      intro j id hj
      have := List.all_eq_true.1 g2 _ (List.mem_of_getElem? hj)
      rw [blt_eq] at this
      simpa using this
    let locr : Loc := fun id => bif Nat.ble lentKey id.1 then loc' id else (if id.1 = 0 ∧ id.2.1 = 0 then (match ro[id.2.2]? with | some i => loc' i | none => none) else none)
    have hhi : ∀ id : Id, lentKey ≤ id.1 → locr id = loc' id := by
      intro id hid
      simp only [locr]
      rw [ble_true hid]; rfl
    have hnw : ∀ (j : Nat) (id : Id), ro[j]? = some id → locr (0, 0, j) = loc' id := by
      intro j id hj
      have h0 : Nat.ble lentKey 0 = false := by decide
      simp only [locr, h0, cond_false, and_self, if_true, hj]
    have hcase : ∀ id l, locr id = some l → (lentKey ≤ id.1 ∧ loc' id = some l) ∨ (id.1 < lentKey ∧ ∃ i, id = (0, 0, id.2.2) ∧ ro[id.2.2]? = some i ∧ loc' i = some l) := by
      intro id l hl
      rcases Nat.lt_or_ge id.1 lentKey with hlt | hge
      · right
        simp only [locr] at hl
        have hc : Nat.ble lentKey id.1 = false := by rw [Bool.eq_false_iff]; intro e; have := Nat.le_of_ble_eq_true e; omega
        rw [hc] at hl
        simp only [cond_false] at hl
        split at hl
        · rename_i h0
          split at hl
          · rename_i i hi
            obtain ⟨x, y, z⟩ := id
            simp only at h0
            exact ⟨hlt, i, by rw [h0.1, h0.2], hi, hl⟩
          · cases hl
        · cases hl
      · rw [hhi id hge] at hl; exact .inl ⟨hge, hl⟩
    have hsub : ∀ b, loc'.avoids b → locr.avoids b := by
      intro b hv id n hl
      rcases hcase id _ hl with ⟨_, q⟩ | ⟨_, i, _, _, q⟩
      · exact hv _ _ q
      · exact hv _ _ q
    have hf2 : ∀ id id' l, outF ro id = some id' → loc' id = some l → locr id' = some l := by
      intro id id' l ho hl
      unfold outF at ho
      cases hc : Nat.ble lentKey id.1 <;> simp only [hc, cond_true, cond_false] at ho
      · split at ho
        · rename_i j hj
          simp only [Option.some.injEq] at ho
          subst ho
          obtain ⟨_, q⟩ := findId_some hj
          rw [Nat.sub_zero] at q
          rw [hnw _ _ q]; exact hl
        · cases ho
      · simp only [Option.some.injEq] at ho
        subst ho
        rw [hhi _ (Nat.le_of_ble_eq_true hc)]; exact hl
    have hmap : ∀ d d' y, mapD true (outF ro) depth d = some d' → Rep w' bs loc' d y → Rep w' bs locr d' y :=
      fun d d' y h1 h2 => mapD_sound hf2 hsub (fun _ => Nat.le_refl _) depth d d' y h1 h2
    have hlenN : ∀ (j : Nat) (id : Id), ro[j]? = some id → j < news.length := by
      intro j id hj
      obtain ⟨y, hy, _⟩ := (mapO_getO g6 j).1 _ hj
      exact (List.getElem?_eq_some_iff.1 hy).1
    have hcont : ∀ id c, outM ms' news id = some c → ∃ i c0, s'.m i = some c0 ∧ mapD true (outF ro) depth c0 = some c ∧ locr id = loc' i ∧ ((lentKey ≤ id.1 ∧ i = id) ∨ (id.1 < lentKey ∧ id = (0, 0, id.2.2) ∧ ro[id.2.2]? = some i)) := by
      intro id c hc
      rcases outM_some hc with ⟨kk, rfl, q1, q2⟩ | ⟨j, rfl, q1⟩
      · obtain ⟨c0, r1, r2⟩ := lentOk_get g5 q1
        rw [Nat.zero_add] at r1
        exact ⟨_, c0, r1, r2, hhi _ (by simp [lentId]), .inl ⟨by simp [lentId], rfl⟩⟩
      · obtain ⟨i, r1, r2⟩ := (mapO_getO g6 j).2 _ q1
        unfold newC at r2
        split at r2
        · rename_i c0 hc0
          exact ⟨i, c0, hc0, r2, hnw _ _ r1, .inr ⟨by show 0 < lentKey; decide, rfl, r1⟩⟩
        · cases r2
    refine ⟨hi.defers, _, run_results (by rw [hrs]; exact h4), _, locr, rfl, hi.same, rep_one (mapO_rep hmap g3 h3), ?_, ?_, ?_, ?_, ?_⟩
    · intro id hid
      rw [hhi id hid]; exact hi.lent id hid
    · intro id l hl hlt'
      rcases hcase id _ hl with ⟨q, _⟩ | ⟨_, i, q1, q2, _⟩
      · omega
      · refine ⟨by rw [q1], by rw [q1], hlenN _ _ q2⟩
    · intro id b n hl hlt'
      rcases hcase id _ hl with ⟨q, _⟩ | ⟨_, i, q1, q2, q3⟩
      · omega
      · have := hi.range _ _ _ q3
        exact ⟨this.1 (Nat.lt_trans (hlow _ _ q2) (by decide)), this.2⟩
    · intro id c hc
      obtain ⟨i, c0, q1, q2, q3, _⟩ := hcont id c hc
      obtain ⟨l, xs, r1, r2, r3⟩ := hi.mem i c0 q1
      exact ⟨l, xs, q3.trans r1, hmap _ _ _ q2 r2, r3⟩
    · intro id id' c c' b n n' hc hc' hl hl'
      obtain ⟨i, c0, q1, q2, q3, q4⟩ := hcont id c hc
      obtain ⟨i', c0', q1', q2', q3', q4'⟩ := hcont id' c' hc'
      rw [q3] at hl
      rw [q3'] at hl'
      have := hi.inj _ _ _ _ _ _ _ q1 q1' hl hl'
      subst this
      rcases q4 with ⟨r1, rfl⟩ | ⟨r1, r2, r3⟩ <;> rcases q4' with ⟨r1', r'⟩ | ⟨r1', r2', r3'⟩
      · exact r'
      · have := hlow _ _ r3'; omega
      · subst r'; have := hlow _ _ r3; omega
      · have := distinctIds_get g1 r3 r3'
        rw [r2, r2', this]
  cases e with
  | normal => cases he; exact fin hq
  | ret => cases he; exact fin hq
  | exit id => cases he; exact hq.elim
  | _ => cases he
theorem satM_of_wp (hm : P.follows .mixedOrders = true) (hT : TOk P T) {g : FuncId} {fn : Func} {c : Code} {args ms : List D} {res : D} {ms' : List (Option D)} {news : List D} (hf : P.funcs[g]? = some fn) (hb : fn.body = some c)
    (hname : (fn.name == "runtime.NumGoroutine") = false) {k : Nat} (hk : fn.ntmps = k) (hlen : Nat.ble args.length k = true) (hsmall : Nat.ble k lentKey = true) {rs : Array ResultVar} (hrs : fn.results = rs)
    (hcode : codeOk k c = true) (h : wp P T c (bodyQM T rs.toList res ms' news) (entryM args ms)) : SatM P g args ms res ms' news :=
  satB_of_wp (.inl rfl) hm hT hf hb hname hk hlen hsmall hrs hcode h
/-- Types but for maps. -/
def noMaps (T : Types) : Types := fun t => match T t with | some ⟨.map _, _, _, _⟩ => none | x => x
theorem noMaps_ok (hT : TOk P T) : TOk P (noMaps T) := by
  intro t i h
  unfold noMaps at h
  split at h
  · cases h
  · exact hT t i h
theorem noMaps_no : ∀ t i, noMaps T t = some i → ∀ k, i.u ≠ .map k := by
  intro t i h k e
  unfold noMaps at h
  split at h
  · cases h
  · rename_i hno
    obtain ⟨u, a, b, c⟩ := i
    simp only at e
    subst e
    exact hno _ _ _ _ h
/-- THE CONTRACT OF A FUNCTION THAT MAY HAND ON THE CALLER'S OWN ROWS, FROM ITS BODY. -/
theorem satL_of_wp (hm : P.follows .mixedOrders = true) (hT : TOk P T) {g : FuncId} {fn : Func} {c : Code} {args ms : List D} {res : D} {ms' : List (Option D)} {news : List D} (hf : P.funcs[g]? = some fn) (hb : fn.body = some c)
    (hname : (fn.name == "runtime.NumGoroutine") = false) {k : Nat} (hk : fn.ntmps = k) (hlen : Nat.ble args.length k = true) (hsmall : Nat.ble k lentKey = true) {rs : Array ResultVar} (hrs : fn.results = rs)
    (hcode : codeOk k c = true) (h : wp P (noMaps T) c (bodyQM (noMaps T) rs.toList res ms' news) (entryM args ms)) : SatB true P g args ms res ms' news :=
  satB_of_wp (.inr noMaps_no) hm (noMaps_ok hT) hf hb hname hk hlen hsmall hrs hcode h
end
end Go.V
/- A nil slice that is handed back, told as an empty one. -/
set_option linter.unusedVariables false
set_option linter.unusedSimpArgs false
set_option linter.unusedSectionVars false
namespace Go.V
variable [Globs]
def isNilV : D → Bool
  | .v (.slice none 0 0) => true
  | _ => false
def isNilR : D → Bool
  | .row true _ (.v (.agg ⟨[]⟩)) 0 => true
  | _ => false
theorem isNilV_eq {d : D} (h : isNilV d = true) : d = .v (.slice none 0 0) := by
  unfold isNilV at h
  split at h
  · rfl
  · cases h
theorem isNilR_eq {d : D} (h : isNilR d = true) : ∃ sz, d = .row true sz (.v (.agg ⟨[]⟩)) 0 := by
  unfold isNilR at h
  split at h
  · exact ⟨_, rfl⟩
  · cases h
def NilL : List D → List D → Prop
  | [], [] => True
  | e :: es, d :: ds => (e = d ∨ (isNilV d = true ∧ isNilR e = true)) ∧ NilL es ds
  | _, _ => False
theorem NilL.get : ∀ {es ds : List D}, NilL es ds → ∀ (j : Nat), (es[j]? = none ∧ ds[j]? = none) ∨ (∃ e d, es[j]? = some e ∧ ds[j]? = some d ∧ (e = d ∨ (isNilV d = true ∧ isNilR e = true)))
  | [], [], _, j => by simp
  | e :: es, d :: ds, h, 0 => .inr ⟨e, d, rfl, rfl, h.1⟩
  | e :: es, d :: ds, h, j + 1 => by simpa using NilL.get h.2 j
  | [], _ :: _, h, _ => h.elim
  | _ :: _, [], h, _ => h.elim
theorem NilL.length : ∀ {es ds : List D}, NilL es ds → es.length = ds.length
  | [], [], _ => rfl
  | e :: es, d :: ds, h => by simp [NilL.length h.2]
  | [], _ :: _, h => h.elim
  | _ :: _, [], h => h.elim
theorem NilL.clean : ∀ {es ds : List D}, NilL es ds → cleanL ds = true → cleanL es = true
  | [], [], _, _ => rfl
  | e :: es, d :: ds, h, hc => by
    simp only [cleanL, Bool.and_eq_true] at hc ⊢
    refine ⟨?_, NilL.clean h.2 hc.2⟩
    rcases h.1 with rfl | ⟨_, h2⟩
    · exact hc.1
    · obtain ⟨sz, rfl⟩ := isNilR_eq h2; rfl
  | [], _ :: _, h, _ => h.elim
  | _ :: _, [], h, _ => h.elim
/-- No part is a tuple. -/
def flatL : List D → Bool
  | [] => true
  | .tup _ :: _ => false
  | _ :: r => flatL r
theorem tops_one : ∀ {ds : List D}, flatL ds = true → tops (one' ds) = ds
  | [], _ => rfl
  | [d], h => by cases d <;> first | rfl | (simp [flatL] at h)
  | d :: e :: r, _ => rfl
theorem NilL.flat : ∀ {es ds : List D}, NilL es ds → flatL ds = true → flatL es = true
  | [], [], _, _ => rfl
  | e :: es, d :: ds, h, hf => by
    rcases h.1 with rfl | ⟨h1, h2⟩
    · have hh := NilL.flat h.2
      cases e <;> first | exact hh hf | exact absurd hf (by simp [flatL])
    · obtain ⟨sz, rfl⟩ := isNilR_eq h2
      rw [isNilV_eq h1] at hf
      simp only [flatL] at hf ⊢
      exact NilL.flat h.2 hf
  | [], _ :: _, h, _ => h.elim
  | _ :: _, [], h, _ => h.elim

section
variable {w : World} {B : Nat}
/-- Where an empty slice lies: nowhere. -/
def nilLoc (es ds : List D) (loc : Loc) : Loc := fun id =>
  match es[id.2.2]?, ds[id.2.2]? with
  | some e, some d => bif id.1 == 0 && id.2.1 == 0 && isNilV d && isNilR e then some (none, 0) else loc id
  | _, _ => loc id
theorem nilLoc_sub {es ds : List D} {loc : Loc} {id : Id} {b n : Nat} (h : nilLoc es ds loc id = some (some b, n)) : loc id = some (some b, n) := by
  unfold nilLoc at h
  split at h
  · rename_i e d _ _
    cases hc : (id.1 == 0 && id.2.1 == 0 && isNilV d && isNilR e) <;> simp only [hc, cond_true, cond_false] at h
    · exact h
    · simp at h
  · exact h

theorem ResRep.nil {es ds : List D} {y : Value} {loc : Loc} (hn : NilL es ds) (hf : flatL ds = true) (h : ResRep w B (one' ds) y loc) : ResRep w B (one' es) y (nilLoc es ds loc) := by
  have ht := tops_one hf
  have ht' := tops_one (hn.flat hf)
  have hnone : ∀ j d, ds[j]? = some d → isNilV d = true → loc (0, 0, j) = none := by
    intro j d hd hv
    cases hl : loc (0, 0, j) with
    | none => rfl
    | some l =>
      have := (h.key _ _ hl).2.2
      rw [ht] at this
      simp only [impC, hd] at this
      rw [isNilV_eq hv] at this
      simp [rowC] at this
  have keep : ∀ id l, loc id = some l → nilLoc es ds loc id = some l := by
    intro id l hl
    unfold nilLoc
    split
    · rename_i e d he hd
      cases hc : (id.1 == 0 && id.2.1 == 0 && isNilV d && isNilR e) <;> simp only [cond_true, cond_false]
      · exact hl
      · simp only [Bool.and_eq_true, beq_iff_eq] at hc
        obtain ⟨⟨⟨h1, h2⟩, h3⟩, h4⟩ := hc
        obtain ⟨a, b, c⟩ := id
        simp only at h1 h2 hd
        subst h1; subst h2
        rw [hnone c d hd h3] at hl
        cases hl
    · exact hl
  have hext : Ext B B w loc w (nilLoc es ds loc) :=
    ⟨Nat.le_refl _, keep, fun b k e fr hk hv => ⟨hk, fun id n hl => hv _ _ (nilLoc_sub hl)⟩, fun id b n k e fr _ hk => ⟨k, e, fr, hk, Nat.le_refl _⟩, fun b es cl hk hp => ⟨es, cl, hk, hp⟩⟩
  have one : ∀ (j : Nat) (e d : D) (z : Value), es[j]? = some e → ds[j]? = some d → (e = d ∨ (isNilV d = true ∧ isNilR e = true)) → Rep w B loc (impD 0 0 j d) z → Rep w B (nilLoc es ds loc) (impD 0 0 j e) z := by
    intro j e d z he hd hed hr
    rcases hed with rfl | ⟨h1, h2⟩
    · exact Rep.ext hext _ _ hr
    · have h1' := h1
      have h2' := h2
      rw [isNilV_eq h1] at hr
      obtain ⟨sz, he'⟩ := isNilR_eq h2
      rw [he']
      simp only [impD, Rep] at hr ⊢
      have hl : nilLoc es ds loc (0, 0, j) = some (none, 0) := by
        unfold nilLoc
        simp only [he, hd, h1', h2', beq_self_eq_true, Bool.and_self, cond_true]
      exact ⟨none, 0, none, 0, hr.1, Nat.le_refl _, hl, by simp, by simp, by simp⟩
  have many : ∀ (es' ds' : List D) (j : Nat) (vs : List Value), (∀ i, es'[i]? = es[j + i]?) → (∀ i, ds'[i]? = ds[j + i]?) → NilL es' ds' → RepL w B loc (impL 0 0 j ds') vs → RepL w B (nilLoc es ds loc) (impL 0 0 j es') vs := by
    intro es'
    induction es' with
    | nil => intro ds' j vs _ _ hn' hr; cases ds' with
      | nil => simpa only [impL, RepL] using hr
      | cons d r => exact hn'.elim
    | cons e es' ih =>
      intro ds' j vs h1 h2 hn' hr
      cases ds' with
      | nil => exact hn'.elim
      | cons d ds' =>
        simp only [impL, RepL] at hr ⊢
        obtain ⟨z, zs, rfl, r1, r2⟩ := hr
        refine ⟨z, zs, rfl, one j e d z ?_ ?_ hn'.1 r1, ih ds' (j + 1) zs ?_ ?_ hn'.2 r2⟩
        · have := h1 0; simpa using this.symm
        · have := h2 0; simpa using this.symm
        · intro i; have := h1 (i + 1); rw [show j + 1 + i = j + (i + 1) by omega]; simpa using this
        · intro i; have := h2 (i + 1); rw [show j + 1 + i = j + (i + 1) by omega]; simpa using this
  refine ⟨?_, ?_, ?_, ?_, ?_, ?_⟩
  · rw [ht']; have := h.new; rw [ht] at this; exact hn.clean this
  · have hr := h.rep
    match es, ds, hn, hf, hr with
    | [], [], _, _, hr => exact hr
    | [e], [d], hn, hf, hr =>
      have he : impV 0 0 (one' [e]) = impD 0 0 0 e := by
        have := hn.flat hf
        cases e <;> first | rfl | (simp [flatL] at this)
      have hd : impV 0 0 (one' [d]) = impD 0 0 0 d := by cases d <;> first | rfl | (simp [flatL] at hf)
      rw [he]
      rw [hd] at hr
      exact one 0 e d y rfl rfl hn.1 hr
    | e :: e' :: es, d :: d' :: ds, hn, hf, hr =>
      simp only [one', impV] at hr ⊢
      rw [Rep] at hr ⊢
      obtain ⟨vs, h1, h2⟩ := hr
      exact ⟨vs, h1, many _ _ 0 vs (fun i => by rw [Nat.zero_add]) (fun i => by rw [Nat.zero_add]) hn h2⟩
    | [e], d :: d' :: ds, hn, _, _ => exact hn.2.elim
    | e :: e' :: es, [d], hn, _, _ => exact hn.2.elim
  · intro id b n hl; exact h.range _ _ _ (nilLoc_sub hl)
  · intro id l hl
    rw [ht']
    unfold nilLoc at hl
    have old : loc id = some l → id.1 = 0 ∧ id.2.1 = 0 ∧ (impC es id.2.2).isSome = true := by
      intro hl
      obtain ⟨h1, h2, h3⟩ := h.key _ _ hl
      rw [ht] at h3
      refine ⟨h1, h2, ?_⟩
      rcases hn.get id.2.2 with ⟨_, q⟩ | ⟨e, d, q1, q2, q3⟩
      · simp [impC, q] at h3
      · simp only [impC, q1, q2] at h3 ⊢
        rcases q3 with rfl | ⟨q3, q4⟩
        · exact h3
        · rw [isNilV_eq q3] at h3; simp [rowC] at h3
    split at hl
    · rename_i e d he hd
      cases hc : (id.1 == 0 && id.2.1 == 0 && isNilV d && isNilR e) <;> simp only [hc, cond_true, cond_false] at hl
      · exact old hl
      · simp only [Bool.and_eq_true, beq_iff_eq] at hc
        refine ⟨hc.1.1.1, hc.1.1.2, ?_⟩
        obtain ⟨sz, he'⟩ := isNilR_eq hc.2
        simp [impC, he, he', rowC]
    · exact old hl
  · intro id id' b n n' hl hl'
    exact h.inj _ _ _ _ _ (nilLoc_sub hl) (nilLoc_sub hl')
  · intro j c hj
    rw [ht'] at hj
    rcases hn.get j with ⟨q, _⟩ | ⟨e, d, q1, q2, q3⟩
    · simp [impC, q] at hj
    · simp only [impC, q1] at hj
      rcases q3 with rfl | ⟨q3, q4⟩
      · obtain ⟨l, xs, r1, r2, r3⟩ := h.mem j c (by rw [ht]; simp only [impC, q2]; exact hj)
        exact ⟨l, xs, keep _ _ r1, Rep.ext hext _ _ r2, r3⟩
      · have q4' := q4
        obtain ⟨sz, he'⟩ := isNilR_eq q4
        rw [he'] at hj
        simp only [rowC, Option.some.injEq] at hj
        subst hj
        refine ⟨none, [], ?_, ?_, rfl⟩
        · unfold nilLoc
          simp only [q1, q2, q3, q4', beq_self_eq_true, Bool.and_self, cond_true]
          rfl
        · simp only [Rep]; exact ⟨trivial, rfl⟩
end

def finQN (T : Types) (rs : List ResultVar) (res : D) (s : St) : Prop :=
  resK T s rs fun ds => distinct (topIds ds) = true ∧ ∃ ds', mapO (expD (topIds ds) s.m) ds = some ds' ∧ ∃ es, flatL ds' = true ∧ NilL es ds' ∧ res = one' es
def bodyQN (T : Types) (rs : List ResultVar) (res : D) : Ex → St → Prop
  | .normal, s => finQN T rs res s
  | .ret, s => finQN T rs res s
  | .exit _, _ => False

/-- THE CONTRACT OF A FUNCTION, FROM ITS BODY; nil slices that are handed back may be told as empty ones. -/
theorem satN_of_wp {P : Program} {T : Types} (hm : P.follows .mixedOrders = true) (hT : TOk P T) {g : FuncId} {fn : Func} {c : Code} {args : List D} {res : D} (hf : P.funcs[g]? = some fn) (hb : fn.body = some c)
    (hname : (fn.name == "runtime.NumGoroutine") = false) {k : Nat} (hk : fn.ntmps = k) (hlen : Nat.ble args.length k = true) (hsmall : Nat.ble k lentKey = true) {rs : Array ResultVar} (hrs : fn.results = rs)
    (hcode : codeOk k c = true) (h : wp P T c (bodyQN T rs.toList res) (entry args)) : Sat P g args res := by
  refine ⟨⟨fn, c, hf, hb, hname⟩, fun w vs hgl hr => ?_⟩
  have hal := hr.length
  have hlen' := Nat.le_of_ble_eq_true hlen
  refine calls_of_wp hf hb ?_
  have hinv : Inv P T k w w.heap.size noLoc (entry args) { tmps := ⟨vs⟩ ++ Array.replicate (fn.ntmps - (⟨vs⟩ : Array Value).size) undef, defers := [] } w noLoc := by
    refine ⟨hT, ⟨Nat.le_refl _, .inl rfl, hgl.lt⟩, (fun e => by simp [entry] at e), by simp [hk]; omega, Nat.le_of_ble_eq_true hsmall, rfl, ⟨rfl, rfl, rfl, Nat.le_refl _, fun _ _ _ => rfl, fun b k e fr hk => ⟨k, e, fr, hk, Nat.le_refl _⟩, fun _ _ _ hk => hk⟩, fun i => ?_, fun id c hc => by simp [entry] at hc, fun id l hl => by simp [noLoc] at hl, fun id b k hl => by simp [noLoc] at hl, fun id c hc => by simp [entry] at hc, fun _ _ => rfl, fun id id' c c' b k k' hc => by simp [entry] at hc, hgl⟩
    simp only [entry]
    rw [List.getD_eq_getElem?_getD]
    cases hd : args[i]? with
    | none => simp [Rep]
    | some d =>
      obtain ⟨y, h1, h2⟩ := hr.get i d hd
      have hlt : i < vs.length := (List.getElem?_eq_some_iff.1 h1).1
      have : (({ tmps := (⟨vs⟩ : Array Value) ++ Array.replicate (fn.ntmps - (⟨vs⟩ : Array Value).size) undef, defers := [] } : Act).tmps.getD i undef) = y := by
        rw [Array.getD_eq_getD_getElem?, Array.getElem?_append_left (by simpa using hlt)]
        simp [h1]
      rw [this]
      exact h2
  refine wp_sound hm c hcode _ _ _ _ _ _ h hinv ?_
  intro e x s' a' w' loc' he hq hi
  have fin : finQN T rs.toList res s' → a'.defers = [] ∧ ∃ v, (results fn a'.tmps).run P w' = .ok v w' ∧ (∃ y loc, Ending.returned v = .returned y ∧ RowKit.Below w.heap.size w w' ∧ ResRep w' w.heap.size res y loc) := by
    intro hq
    obtain ⟨ds, vs', ⟨h1, ds', h2, es, h5, h6, rfl⟩, h3, h4⟩ := resK_sound hi rs.toList _ hq
    obtain ⟨locr, hres⟩ := exp_sound hi h3 h1 h2
    refine ⟨hi.defers, _, run_results (by rw [hrs]; exact h4), _, _, rfl, ?_, hres.nil h6 h5⟩
    exact ⟨hi.same.os, hi.same.tape, hi.same.output, hi.same.size, fun k hk => hi.same.block k hk (fun h => by obtain ⟨_, _, _, _, h⟩ := h; cases h)⟩
  cases e with
  | normal => cases he; exact fin hq
  | ret => cases he; exact fin hq
  | exit id => cases he; exact hq.elim
  | _ => cases he
theorem SatB.of_eq {low : Bool} {P : Program} {g : FuncId} {args args' ms ms0 : List D} {res : D} {ms' : List (Option D)} {news : List D} (h : SatB low P g args ms res ms' news) (e : args' = args) (e2 : ms0 = ms) : SatB low P g args' ms0 res ms' news := by
  rw [e, e2]; exact h
theorem SatM.of_eq {P : Program} {g : FuncId} {args args' ms ms0 : List D} {res : D} {ms' : List (Option D)} {news : List D} (h : SatM P g args ms res ms' news) (e : args' = args) (e2 : ms0 = ms) : SatM P g args' ms0 res ms' news := by
  rw [e, e2]; exact h
/-- Values that a function carries with it, told as data. -/
structure CapOk (caps : List D) : Prop where
  deep : ∀ m, mapO (deep false [] m depth) caps = some caps
  ren : ∀ rn, mapO (renD rn 11) caps = some caps
theorem CapOk.fn {caps : List D} (h : CapOk caps) (f : Fn) (rn : Rn) : renD rn depth (.fn f [] caps) = some (.fn f [] caps) := by
  have := h.ren rn
  show renD rn (11 + 1) (.fn f [] caps) = _
  rw [renD]
  simp only [mapO, this]
theorem CapOk.one {caps : List D} (h : CapOk caps) {m : Id → Option D} {x y : D} (hx : V.deep false [] m depth x = some y) : mapO (V.deep false [] m depth) ([] ++ ([x] ++ caps)) = some (y :: caps) := by
  simp only [List.nil_append, List.cons_append, mapO, hx, h.deep]
theorem CapOk.two {caps : List D} (h : CapOk caps) {m : Id → Option D} {x y x' y' : D} (hx : V.deep false [] m depth x = some y) (hx' : V.deep false [] m depth x' = some y') : mapO (V.deep false [] m depth) ([] ++ ([x, x'] ++ caps)) = some (y :: y' :: caps) := by
  simp only [List.nil_append, List.cons_append, mapO, hx, hx', h.deep]
theorem CapOk.nil : CapOk [] := ⟨fun _ => rfl, fun _ => rfl⟩
end Go.V
/- A block of the call's own that is not written to any more, told as a row; a row of the call's own that is handed back. -/
set_option linter.unusedVariables false
set_option linter.unusedSimpArgs false
set_option linter.unusedSectionVars false
namespace Go.V
variable [Globs]

theorem Sim.trans {s s2 s3 : St} (h : Sim s s2) (h' : Sim s2 s3) : Sim s s3 := fun P T n w0 bs l0 a w loc hi => by
  obtain ⟨l, h1⟩ := h _ _ _ _ _ _ _ _ _ hi
  exact h' _ _ _ _ _ _ _ _ _ h1

/-- A value in which a slice that holds the whole of a block is told as a row; what leads to blocks that are not known is forgotten. -/
def frzD (id : Id) (xs : List Value) (live : Id → Bool) : Nat → D → D
  | 0, _ => .junk
  | n + 1, d =>
    match d with
    | .junk => .junk
    | .mp => .mp
    | .v x => .v x
    | .ptr j off => bif idEq id j then .junk else (bif live j then .ptr j off else .junk)
    | .slc full sz j off len => bif idEq id j then (bif full then .row true sz (.v (.agg ⟨xs⟩)) len else .junk) else (bif live j then .slc full sz j off len else .junk)
    | .ref m c off => .ref m (frzD id xs live n c) off
    | .row m sz c len => .row m sz (frzD id xs live n c) len
    | .agg ds => .agg (ds.map (frzD id xs live n))
    | .tup ds => .tup (ds.map (frzD id xs live n))
    | .fn f a b => .fn f (a.map (frzD id xs live n)) (b.map (frzD id xs live n))
def St.frz (s : St) (id : Id) (xs : List Value) : St :=
  { s with t := fun i => frzD id xs (fun j => (s.m j).isSome) depth (s.t i), m := fun j => bif idEq id j then none else (match s.m j with | some c => some (frzD id xs (fun j => (s.m j).isSome) depth c) | none => none) }

theorem map_rep {w : World} {base B : Nat} {loc loc' : Loc} {f : D → D} (hf : ∀ d y, Rep w base loc d y → Rep w B loc' (f d) y) : ∀ {ds : List D} {vs : List Value}, RepL w base loc ds vs → RepL w B loc' (ds.map f) vs
  | [], vs, h => by simpa only [List.map_nil, RepL] using h
  | d :: ds, vs, h => by
    simp only [RepL] at h
    obtain ⟨y, ys, rfl, h1, h2⟩ := h
    simp only [List.map_cons, RepL]
    exact ⟨y, ys, rfl, hf _ _ h1, map_rep hf h2⟩

theorem frz_sim {s : St} {id : Id} {xs : List Value} (hs : s.c lentKey = 7) (hlt : Nat.blt id.1 lentKey = true) (hm : s.m id = some (.v (.agg ⟨xs⟩))) : Sim s (s.frz id xs) := by
  intro P T n w0 bs l0 a w loc h
  obtain ⟨rfl, rfl⟩ := h.solo hs
  have hlt : id.1 < lentKey := by rw [blt_eq] at hlt; simpa using hlt
  let loc' : Loc := fun j => if j.1 < lentKey ∧ (j = id ∨ s.m j = none) then none else loc j
  have hsub : ∀ j l, loc' j = some l → loc j = some l := by
    intro j l hj
    simp only [loc'] at hj
    split at hj
    · cases hj
    · exact hj
  have hkeep : ∀ j l, idEq id j = false → (s.m j).isSome = true → loc j = some l → loc' j = some l := by
    intro j l h1 h2 h3
    simp only [loc']
    rw [if_neg]
    · exact h3
    · rintro ⟨_, rfl | h4⟩
      · rw [idEq_iff.2 rfl] at h1; cases h1
      · rw [h4] at h2; cases h2
  have hav : ∀ b, loc.avoids b → loc'.avoids b := fun b hv j k hj => hv _ _ (hsub _ _ hj)
  obtain ⟨l, ys, g1, g2, g3⟩ := h.mem id _ hm
  simp only [Rep, Value.agg.injEq, Array.mk.injEq] at g2
  obtain ⟨rfl, hflat⟩ := g2
  have hout : ∀ b, l = some b → loc'.avoids b := by
    rintro b rfl j k hj
    have hj0 := hsub _ _ hj
    simp only [loc'] at hj
    split at hj
    · cases hj
    · rename_i hno
      have hlow : j.1 < lentKey := by
        rcases Nat.lt_or_ge j.1 lentKey with q | q
        · exact q
        · have := h.lent j q
          rw [hj0] at this
          simp [noLoc] at this
      cases hc : s.m j with
      | none => exact hno ⟨hlow, .inr hc⟩
      | some c =>
        have := h.inj _ _ _ _ _ _ _ hc hm hj0 g1
        exact hno ⟨hlow, .inl this⟩
  have hfr : ∀ (n : Nat) (d : D) (y : Value), Rep w w0.heap.size loc d y → Rep w w0.heap.size loc' (frzD id ys (fun j => (s.m j).isSome) n d) y := by
    intro n
    induction n with
    | zero => intro d y _; simp [frzD, Rep]
    | succ n ih =>
      intro d y hr
      cases d with
      | junk => simp [frzD, Rep]
      | mp => simpa only [frzD, Rep] using hr
      | v x => simpa only [frzD, Rep] using hr
      | ptr j off =>
        simp only [frzD]
        cases h1 : idEq id j <;> simp only [h1, cond_true, cond_false]
        · cases h2 : (s.m j).isSome <;> simp only [h2, cond_true, cond_false]
          · simp [Rep]
          · simp only [Rep] at hr ⊢
            obtain ⟨b, k, q1, q2⟩ := hr
            exact ⟨b, k, hkeep _ _ h1 h2 q1, q2⟩
        · simp [Rep]
      | slc full sz j off len =>
        simp only [frzD]
        cases h1 : idEq id j <;> simp only [h1, cond_true, cond_false]
        · cases h2 : (s.m j).isSome <;> simp only [h2, cond_true, cond_false]
          · simp [Rep]
          · simp only [Rep] at hr ⊢
            obtain ⟨aa, cap, l2, k, q1, q2, q3, q4⟩ := hr
            exact ⟨aa, cap, l2, k, q1, q2, hkeep _ _ h1 h2 q3, q4⟩
        · rw [idEq_iff] at h1
          subst h1
          cases full <;> simp only [cond_true, cond_false]
          · simp [Rep]
          · simp only [Rep] at hr ⊢
            obtain ⟨aa, cap, l2, k, q1, q2, q3, q4, q5, q6⟩ := hr
            rw [g1] at q3
            simp only [Option.some.injEq, Prod.mk.injEq] at q3
            obtain ⟨rfl, rfl⟩ := q3
            obtain ⟨q5a, q5b⟩ := q5 trivial
            subst q5a
            refine ⟨aa, cap, ys, q1, q2, ⟨rfl, hflat⟩, q5b.symm, ?_, fun _ => ?_⟩
            · cases l with
              | none => exact .inl (by simp [q6.1])
              | some b =>
                obtain ⟨o, r1, r2, r3⟩ := q6
                obtain ⟨rfl, _⟩ := r3 trivial
                have hge : w0.heap.size ≤ b := by
                  rcases (h.range _ _ _ g1).1 (Nat.lt_trans hlt (by decide)) with q | ⟨_, _, _, _, q⟩
                  · exact q
                  · simp [noLoc] at q
                exact .inr ⟨b, 0, r1, At.of_blk g3, hout b rfl, fun _ => hge⟩
            · cases l with
              | none => exact .inl q6
              | some b =>
                obtain ⟨o, r1, r2, r3⟩ := q6
                obtain ⟨rfl, k0, e0, fr0, r4, r5⟩ := r3 trivial
                obtain ⟨k1, e1, r6, _, _⟩ := g3
                rw [r6] at r4
                simp only [Option.some.injEq, Obj.cells.injEq] at r4
                obtain ⟨rfl, rfl, _⟩ := r4
                have hge : w0.heap.size ≤ b := by
                  rcases (h.range _ _ _ g1).1 (Nat.lt_trans hlt (by decide)) with q | ⟨_, _, _, _, q⟩
                  · exact q
                  · simp [noLoc] at q
                exact .inr ⟨b, _, _, r1, hout b rfl, hge, r6, r5⟩
      | ref m c off =>
        simp only [frzD, Rep] at hr ⊢
        obtain ⟨b, o, zs, q1, q2, q3, q4, q5⟩ := hr
        exact ⟨b, o, zs, q1, q2, hav b q3, q4, ih _ _ q5⟩
      | row m sz c len =>
        simp only [frzD, Rep] at hr ⊢
        obtain ⟨aa, cap, zs, q1, q2, q3, q4, q5, q6⟩ := hr
        refine ⟨aa, cap, zs, q1, q2, ih _ _ q3, q4, ?_, fun hm' => ?_⟩
        · rcases q5 with q5 | ⟨b, o, r1, r2, r3, r4⟩
          · exact .inl q5
          · exact .inr ⟨b, o, r1, r2, hav b r3, r4⟩
        · rcases q6 hm' with q6 | ⟨b, k, e, r1, r2, r3⟩
          · exact .inl q6
          · exact .inr ⟨b, k, e, r1, hav b r2, r3⟩
      | agg ds =>
        simp only [frzD, Rep] at hr ⊢
        obtain ⟨vs, q1, q2, q3⟩ := hr
        exact ⟨vs, q1, map_rep (fun d y => ih d y) q2, q3⟩
      | tup ds =>
        simp only [frzD, Rep] at hr ⊢
        obtain ⟨vs, q1, q2⟩ := hr
        exact ⟨vs, q1, map_rep (fun d y => ih d y) q2⟩
      | fn f x y2 =>
        simp only [frzD, Rep] at hr ⊢
        obtain ⟨va, vb, q1, q2, q3⟩ := hr
        exact ⟨va, vb, q1, map_rep (fun d y => ih d y) q2, map_rep (fun d y => ih d y) q3⟩
  have hmem : ∀ j c, (s.frz id ys).m j = some c → ∃ c0, s.m j = some c0 ∧ c = frzD id ys (fun j => (s.m j).isSome) depth c0 ∧ idEq id j = false := by
    intro j c hc
    simp only [St.frz] at hc
    cases h1 : idEq id j <;> simp only [h1, cond_true, cond_false] at hc
    · cases h2 : s.m j with
      | none => rw [h2] at hc; cases hc
      | some c0 =>
        rw [h2] at hc
        simp only [Option.some.injEq] at hc
        exact ⟨c0, rfl, hc.symm, rfl⟩
    · cases hc
  refine ⟨loc', h.types, h.low, h.solo, h.size, h.small, h.defers, h.same, fun i => hfr _ _ _ (h.tmp i), fun j c hc => ?_, fun j l2 hj hk => h.cnt j l2 (hsub _ _ hj) hk, fun j b k hj => h.range j b k (hsub _ _ hj), fun j c hc => ?_, fun j hj => ?_, fun j j' c c' b k k' hc hc' hj hj' => ?_, h.glob.loc hav⟩
  · obtain ⟨c0, q1, rfl, q2⟩ := hmem j c hc
    obtain ⟨l2, zs, r1, r2, r3⟩ := h.mem j c0 q1
    exact ⟨l2, zs, hkeep _ _ q2 (by rw [q1]; rfl) r1, hfr _ _ _ r2, r3⟩
  · obtain ⟨c0, q1, _⟩ := hmem j c hc
    exact h.live _ _ q1
  · simp only [loc']
    rw [if_neg (by omega)]
    exact h.lent j hj
  · obtain ⟨c0, q1, _⟩ := hmem j c hc
    obtain ⟨c0', q1', _⟩ := hmem j' c' hc'
    exact h.inj _ _ _ _ _ _ _ q1 q1' (hsub _ _ hj) (hsub _ _ hj')

/-- What is plain in a slot. -/
def plainD : D → D
  | .v x => .v x
  | _ => .junk
/-- The state at an end, where a slot holds a row of the call's own: the row as a block. -/
def St.thaw (s : St) (i : Nat) (sz : Nat) (xs : List Value) (len : Nat) : St :=
  { t := fun j => bif j == i then .slc true sz (i, s.c i, 0) 0 len else plainD (s.t j), m := fun j => bif idEq (i, s.c i, 0) j then some (.v (.agg ⟨xs⟩)) else none, c := upd s.c i (s.c i + 1) }

theorem thaw_sim {s : St} {i sz len : Nat} {xs : List Value} (hs : s.c lentKey = 7) (hi : Nat.blt i lentKey = true) (ht : s.t i = .row true sz (.v (.agg ⟨xs⟩)) len) : Sim s (s.thaw i sz xs len) := by
  intro P T n w0 bs l0 a w loc h
  obtain ⟨rfl, rfl⟩ := h.solo hs
  have hi : i < lentKey := by rw [blt_eq] at hi; simpa using hi
  have hr := h.tmp i
  rw [ht] at hr
  simp only [Rep, Value.agg.injEq, Array.mk.injEq] at hr
  obtain ⟨aa, cap, ys, q1, q2, ⟨rfl, hflat⟩, q4, q5, q6⟩ := hr
  have q6 := q6 trivial
  have fresh : ∀ l, loc (i, s.c i, 0) ≠ some l := fun l hl => by have := h.cnt _ l hl hi; simp at this
  have hhigh : ∀ j : Id, lentKey ≤ j.1 → loc j = none := fun j hj => h.lent j hj
  -- where the row lies
  obtain ⟨l, hl1, hl2, hl3, hl4⟩ : ∃ l : Option Nat, BlkAt w l ys ∧ (∀ b, l = some b → w0.heap.size ≤ b ∧ b < w.heap.size ∧ loc.avoids b) ∧
      (match l with | none => len = 0 ∧ cap = 0 | some b => ∃ o, aa = some ⟨b, o, none⟩ ∧ (len ≠ 0 → o = 0) ∧ (True → o = 0 ∧ ∃ k e fr, w.heap[b]? = some (.cells k e fr) ∧ cap * sz ≤ k.size)) ∧ len * sz = ys.length := by
    rcases q6 with q6 | ⟨b, k, e, r1, r2, r3, r4, r5⟩
    · refine ⟨none, ?_, (fun b e => by cases e), q6, q4.symm⟩
      have : ys.length = 0 := by rw [q4, q6.1]; simp
      exact List.length_eq_zero_iff.1 this
    · refine ⟨some b, ?_, (fun b' e => by cases e; exact ⟨r3, (Array.getElem?_eq_some_iff.1 r4).1, r2⟩), ⟨0, r1, fun _ => rfl, fun _ => ⟨rfl, k, e, (0, 0), r4, r5⟩⟩, q4.symm⟩
      refine ⟨k, e, r4, ?_, ?_⟩
      · rcases q5 with q5 | ⟨b', o, p1, ⟨k', e', fr', p2, p3, p4⟩, _⟩
        · have : ys = [] := List.length_eq_zero_iff.1 (by rw [q4, q5])
          rw [this]; simp
        · rw [r1] at p1
          simp only [Option.some.injEq, Addr.mk.injEq, and_true] at p1
          obtain ⟨rfl, rfl⟩ := p1
          rw [r4] at p2
          simp only [Option.some.injEq, Obj.cells.injEq] at p2
          obtain ⟨rfl, _, _⟩ := p2
          simpa using p4
      · rw [q4]
        have := Nat.mul_le_mul_right sz q2
        omega
  let loc' : Loc := fun j => if j = (i, s.c i, 0) then some (l, ys.length) else if lentKey ≤ j.1 then loc j else none
  have hcase : ∀ j x, loc' j = some x → j = (i, s.c i, 0) ∧ x = (l, ys.length) := by
    intro j x hj
    simp only [loc'] at hj
    split at hj
    · rename_i e; exact ⟨e, (Option.some.inj hj).symm⟩
    · split at hj
      · rename_i hg; rw [hhigh j hg] at hj; cases hj
      · cases hj
  have hself : loc' (i, s.c i, 0) = some (l, ys.length) := by simp only [loc', if_true]
  have hm : ∀ j c, (s.thaw i sz ys len).m j = some c → j = (i, s.c i, 0) ∧ c = .v (.agg ⟨ys⟩) := by
    intro j c hc
    simp only [St.thaw] at hc
    cases h1 : idEq (i, s.c i, 0) j <;> simp only [h1, cond_true, cond_false] at hc
    · cases hc
    · rw [idEq_iff] at h1
      exact ⟨h1.symm, (Option.some.inj hc).symm⟩
  refine ⟨loc', h.types, h.low, (fun _ => ⟨rfl, rfl⟩), h.size, h.small, h.defers, h.same, fun j => ?_, fun j c hc => ?_, fun j x hj hk => ?_, fun j b k hj => ?_, fun j c hc => ?_, fun j hj => ?_, fun j j' c c' b k k' hc hc' hj hj' => ?_, ?_⟩
  · simp only [St.thaw]
    cases hji : (j == i) <;> simp only [hji, cond_true, cond_false]
    · have := h.tmp j
      cases hd : s.t j <;> simp only [plainD, Rep]
      rw [hd] at this
      simpa only [Rep] using this
    · simp only [beq_iff_eq] at hji
      subst hji
      simp only [Rep]
      exact ⟨aa, cap, l, ys.length, q1, q2, hself, by omega, fun _ => ⟨trivial, hl4⟩, hl3⟩
  · obtain ⟨rfl, rfl⟩ := hm j c hc
    exact ⟨l, ys, hself, by simp only [Rep]; exact ⟨trivial, hflat⟩, hl1⟩
  · obtain ⟨rfl, _⟩ := hcase j x hj
    show s.c i < upd s.c i (s.c i + 1) i
    rw [upd_eq, if_pos rfl]; omega
  · obtain ⟨rfl, e⟩ := hcase _ _ hj
    simp only [Prod.mk.injEq] at e
    obtain ⟨r1, r2, _⟩ := hl2 b e.1.symm
    exact ⟨fun _ => .inl r1, r2⟩
  · obtain ⟨rfl, _⟩ := hm j c hc
    exact Nat.lt_trans hi (by decide)
  · simp only [loc']
    rw [if_neg (by rintro rfl; omega), if_pos hj]
    exact h.lent j hj
  · rw [(hm j c hc).1, (hm j' c' hc').1]
  · have key : ∀ g, (Globs.tab g).isSome = true ∨ (Globs.any g).isSome = true → loc'.avoids g := by
      intro g hg j k hj
      obtain ⟨_, e⟩ := hcase _ _ hj
      simp only [Prod.mk.injEq] at e
      have := (hl2 g e.1.symm).1
      have := h.low.2.2 g hg
      omega
    exact ⟨fun g zs hg => ⟨(h.glob.tab g zs hg).1, key g (.inl (by rw [hg]; rfl))⟩, fun g Q hg => by
      obtain ⟨zs, r1, r2, _⟩ := h.glob.any g Q hg
      exact ⟨zs, r1, r2, key g (.inr (by rw [hg]; rfl))⟩⟩

/-- The state at the begin of a function to which nothing is lent. -/
def entryS (args : List D) : St := { t := fun i => args.getD i .junk, m := fun _ => none, c := fun i => bif i == lentKey then 7 else 0 }
def finQS (T : Types) (rs : List ResultVar) (res : D) (s : St) : Prop := finQN T rs res s ∨ ∃ s', Sim s s' ∧ finQN T rs res s'
def bodyQS (T : Types) (rs : List ResultVar) (res : D) : Ex → St → Prop
  | .normal, s => finQS T rs res s
  | .ret, s => finQS T rs res s
  | .exit _, _ => False

/-- THE CONTRACT OF A FUNCTION TO WHICH NOTHING IS LENT, FROM ITS BODY. -/
theorem satS_of_wp {P : Program} {T : Types} (hm : P.follows .mixedOrders = true) (hT : TOk P T) {g : FuncId} {fn : Func} {c : Code} {args : List D} {res : D} (hf : P.funcs[g]? = some fn) (hb : fn.body = some c)
    (hname : (fn.name == "runtime.NumGoroutine") = false) {k : Nat} (hk : fn.ntmps = k) (hlen : Nat.ble args.length k = true) (hsmall : Nat.ble k lentKey = true) {rs : Array ResultVar} (hrs : fn.results = rs)
    (hcode : codeOk k c = true) (h : wp P T c (bodyQS T rs.toList res) (entryS args)) : Sat P g args res := by
  refine ⟨⟨fn, c, hf, hb, hname⟩, fun w vs hgl hr => ?_⟩
  have hal := hr.length
  have hlen' := Nat.le_of_ble_eq_true hlen
  refine calls_of_wp hf hb ?_
  have hinv : Inv P T k w w.heap.size noLoc (entryS args) { tmps := ⟨vs⟩ ++ Array.replicate (fn.ntmps - (⟨vs⟩ : Array Value).size) undef, defers := [] } w noLoc := by
    refine ⟨hT, ⟨Nat.le_refl _, .inl rfl, hgl.lt⟩, (fun _ => ⟨rfl, rfl⟩), by simp [hk]; omega, Nat.le_of_ble_eq_true hsmall, rfl, ⟨rfl, rfl, rfl, Nat.le_refl _, fun _ _ _ => rfl, fun b k e fr hk => ⟨k, e, fr, hk, Nat.le_refl _⟩, fun _ _ _ hk => hk⟩, fun i => ?_, fun id c hc => by simp [entryS] at hc, fun id l hl => by simp [noLoc] at hl, fun id b k hl => by simp [noLoc] at hl, fun id c hc => by simp [entryS] at hc, fun _ _ => rfl, fun id id' c c' b k k' hc => by simp [entryS] at hc, hgl⟩
    simp only [entryS]
    rw [List.getD_eq_getElem?_getD]
    cases hd : args[i]? with
    | none => simp [Rep]
    | some d =>
      obtain ⟨y, h1, h2⟩ := hr.get i d hd
      have hlt : i < vs.length := (List.getElem?_eq_some_iff.1 h1).1
      have : (({ tmps := (⟨vs⟩ : Array Value) ++ Array.replicate (fn.ntmps - (⟨vs⟩ : Array Value).size) undef, defers := [] } : Act).tmps.getD i undef) = y := by
        rw [Array.getD_eq_getD_getElem?, Array.getElem?_append_left (by simpa using hlt)]
        simp [h1]
      rw [this]
      exact h2
  refine wp_sound hm c hcode _ _ _ _ _ _ h hinv ?_
  intro e x s' a' w' loc' he hq hi
  have fin0 : ∀ s' loc', finQN T rs.toList res s' → Inv P T k w w.heap.size noLoc s' a' w' loc' → a'.defers = [] ∧ ∃ v, (results fn a'.tmps).run P w' = .ok v w' ∧ (∃ y loc, Ending.returned v = .returned y ∧ RowKit.Below w.heap.size w w' ∧ ResRep w' w.heap.size res y loc) := by
    intro s' loc' hq hi
    obtain ⟨ds, vs', ⟨h1, ds', h2, es, h5, h6, rfl⟩, h3, h4⟩ := resK_sound hi rs.toList _ hq
    obtain ⟨locr, hres⟩ := exp_sound hi h3 h1 h2
    refine ⟨hi.defers, _, run_results (by rw [hrs]; exact h4), _, _, rfl, ?_, hres.nil h6 h5⟩
    exact ⟨hi.same.os, hi.same.tape, hi.same.output, hi.same.size, fun k hk => hi.same.block k hk (fun h => by obtain ⟨_, _, _, _, h⟩ := h; cases h)⟩
  have fin : finQS T rs.toList res s' → a'.defers = [] ∧ ∃ v, (results fn a'.tmps).run P w' = .ok v w' ∧ (∃ y loc, Ending.returned v = .returned y ∧ RowKit.Below w.heap.size w w' ∧ ResRep w' w.heap.size res y loc) := by
    rintro (hq | ⟨s2, hsim, hq⟩)
    · exact fin0 _ _ hq hi
    · obtain ⟨loc2, hi2⟩ := hsim _ _ _ _ _ _ _ _ _ hi
      exact fin0 _ _ hq hi2
  cases e with
  | normal => cases he; exact fin hq
  | ret => cases he; exact fin hq
  | exit id => cases he; exact hq.elim
  | _ => cases he
end Go.V
/- Code cut in two: the state is told anew between. -/
set_option linter.unusedVariables false
set_option linter.unusedSimpArgs false
set_option linter.unusedSectionVars false
namespace Go.V
variable [Globs]
/-- The code behind the first n parts of a row of parts. -/
def cutWp (P : Program) (T : Types) : Nat → Code → (Code → St → Prop) → (Ex → St → Prop) → St → Prop
  | 0, c, K, _, s => ∃ s2, Sim s s2 ∧ K c s2
  | n + 1, .seq a b, K, Q, s => wp P T a (Ex.seq (cutWp P T n b K Q) Q) s
  | _ + 1, _, _, _, _ => False
def cuts (P : Program) (T : Types) : List Nat → Code → (Ex → St → Prop) → St → Prop
  | [], c, Q, s => wp P T c Q s
  | n :: r, c, Q, s => cutWp P T n c (fun c' s' => cuts P T r c' Q s') Q s
/-- The code of a function. -/
def codeOf {P : Program} {g : FuncId} {f : Func} (_ : P.funcs[g]? = some f) : Code := match f.body with | some c => c | none => .skip
/-- What is left of a row of parts. -/
def tailC : Nat → Code → Code
  | 0, c => c
  | n + 1, .seq _ b => tailC n b
  | _ + 1, c => c
section
variable {P : Program} {T : Types} {n lo : Nat} {w0 : World} {l0 : Loc}
theorem cut_sound (hm : P.follows .mixedOrders = true) {K : Code → St → Prop} {Q : Ex → St → Prop} {R : Exit → Act → World → Prop}
    (hR : ∀ e x s' a' w' loc', exOf e = some x → Q x s' → Inv P T n w0 lo l0 s' a' w' loc' → R e a' w')
    (hK : ∀ c s a w loc, codeOk n c = true → K c s → Inv P T n w0 lo l0 s a w loc → c.wp P R a w) :
    ∀ (m : Nat) (c : Code), codeOk n c = true → ∀ (s : St) (a : Act) (w : World) (loc : Loc), cutWp P T m c K Q s → Inv P T n w0 lo l0 s a w loc → c.wp P R a w := by
  intro m
  induction m with
  | zero =>
    intro c hc s a w loc h hi
    obtain ⟨s2, hsim, hk⟩ := h
    obtain ⟨loc2, hi2⟩ := hsim _ _ _ _ _ _ _ _ _ hi
    exact hK _ _ _ _ _ hc hk hi2
  | succ m ih =>
    intro c hc s a w loc h hi
    cases c with
    | seq x y =>
      simp only [codeOk, Bool.and_eq_true] at hc
      refine wp_seq (wp_sound hm x hc.1 _ s a w loc _ h hi ?_)
      intro e ex s' a' w' loc' he hq hi'
      cases e with
      | normal => cases he; exact ih y hc.2 _ _ _ _ hq hi'
      | exit id => cases he; exact hR _ _ _ _ _ _ rfl hq hi'
      | ret => cases he; exact hR _ _ _ _ _ _ rfl hq hi'
      | _ => cases he
    | _ => exact h.elim
theorem cuts_sound (hm : P.follows .mixedOrders = true) : ∀ (ns : List Nat) (c : Code), codeOk n c = true → ∀ (Q : Ex → St → Prop) (s : St) (a : Act) (w : World) (loc : Loc) (R : Exit → Act → World → Prop),
    cuts P T ns c Q s → Inv P T n w0 lo l0 s a w loc → (∀ e x s' a' w' loc', exOf e = some x → Q x s' → Inv P T n w0 lo l0 s' a' w' loc' → R e a' w') → c.wp P R a w := by
  intro ns
  induction ns with
  | nil => intro c hc Q s a w loc R h hi hR; exact wp_sound hm c hc Q s a w loc R h hi hR
  | cons m r ih =>
    intro c hc Q s a w loc R h hi hR
    exact cut_sound hm hR (fun c s a w loc hc hk hi => ih c hc Q s a w loc R hk hi hR) m c hc s a w loc h hi
end
section
variable {P : Program} {T : Types}
theorem satC_of_wp (ns : List Nat) (hm : P.follows .mixedOrders = true) (hT : TOk P T) {g : FuncId} {fn : Func} {c : Code} {args : List D} {res : D} (hf : P.funcs[g]? = some fn) (hb : fn.body = some c)
    (hname : (fn.name == "runtime.NumGoroutine") = false) {k : Nat} (hk : fn.ntmps = k) (hlen : Nat.ble args.length k = true) (hsmall : Nat.ble k lentKey = true) {rs : Array ResultVar} (hrs : fn.results = rs)
    (hcode : codeOk k c = true) (h : cuts P T ns c (bodyQ T rs.toList res) (entry args)) : Sat P g args res := by
  refine ⟨⟨fn, c, hf, hb, hname⟩, fun w vs hgl hr => ?_⟩
  have hal := hr.length
  have hlen' := Nat.le_of_ble_eq_true hlen
  refine calls_of_wp hf hb ?_
  have hinv : Inv P T k w w.heap.size noLoc (entry args) { tmps := ⟨vs⟩ ++ Array.replicate (fn.ntmps - (⟨vs⟩ : Array Value).size) undef, defers := [] } w noLoc := by
    refine ⟨hT, ⟨Nat.le_refl _, .inl rfl, hgl.lt⟩, (fun e => by simp [entry] at e), by simp [hk]; omega, Nat.le_of_ble_eq_true hsmall, rfl, ⟨rfl, rfl, rfl, Nat.le_refl _, fun _ _ _ => rfl, fun b k e fr hk => ⟨k, e, fr, hk, Nat.le_refl _⟩, fun _ _ _ hk => hk⟩, fun i => ?_, fun id c hc => by simp [entry] at hc, fun id l hl => by simp [noLoc] at hl, fun id b k hl => by simp [noLoc] at hl, fun id c hc => by simp [entry] at hc, fun _ _ => rfl, fun id id' c c' b k k' hc => by simp [entry] at hc, hgl⟩
    simp only [entry]
    rw [List.getD_eq_getElem?_getD]
    cases hd : args[i]? with
    | none => simp [Rep]
    | some d =>
      obtain ⟨y, h1, h2⟩ := hr.get i d hd
      have hlt : i < vs.length := (List.getElem?_eq_some_iff.1 h1).1
      have : (({ tmps := (⟨vs⟩ : Array Value) ++ Array.replicate (fn.ntmps - (⟨vs⟩ : Array Value).size) undef, defers := [] } : Act).tmps.getD i undef) = y := by
        rw [Array.getD_eq_getD_getElem?, Array.getElem?_append_left (by simpa using hlt)]
        simp [h1]
      rw [this]
      exact h2
  refine cuts_sound hm ns c hcode _ _ _ _ _ _ h hinv ?_
  intro e x s' a' w' loc' he hq hi
  have fin : finQ T rs.toList res s' → a'.defers = [] ∧ ∃ v, (results fn a'.tmps).run P w' = .ok v w' ∧ (∃ y loc, Ending.returned v = .returned y ∧ RowKit.Below w.heap.size w w' ∧ ResRep w' w.heap.size res y loc) := by
    intro hq
    obtain ⟨ds, vs', ⟨h1, ds', h2, rfl⟩, h3, h4⟩ := resK_sound hi rs.toList _ hq
    obtain ⟨locr, hres⟩ := exp_sound hi h3 h1 h2
    refine ⟨hi.defers, _, run_results (by rw [hrs]; exact h4), _, locr, rfl, ?_, hres⟩
    exact ⟨hi.same.os, hi.same.tape, hi.same.output, hi.same.size, fun k hk => hi.same.block k hk (fun h => by obtain ⟨_, _, _, _, h⟩ := h; cases h)⟩
  cases e with
  | normal => cases he; exact fin hq
  | ret => cases he; exact fin hq
  | exit id => cases he; exact hq.elim
  | _ => cases he

end
end Go.V
