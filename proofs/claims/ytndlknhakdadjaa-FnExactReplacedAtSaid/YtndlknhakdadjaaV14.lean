/- Words for use: a loop by what some slots and blocks hold (their names may change from round to round). -/
import Derived.Test.YtndlknhakdadjaaV13
set_option linter.unusedVariables false
set_option linter.unusedSimpArgs false
namespace Go.V

abbrev Rn := List (Id × Id)
def rnOf : Rn → Id → Option Id
  | [], _ => none
  | (i, j) :: r, id => bif (id.1 == i.1 && (id.2.1 == i.2.1 && id.2.2 == i.2.2)) then some j else rnOf r id
/-- A name for a block that is not there: of a nil slice. -/
def nilKey : Nat := 2000000
abbrev nilId : Id := (nilKey, 0, 0)
/-- The other name of a block; lent ones keep theirs. -/
def rnAt (rn : Rn) (id : Id) : Option Id := bif Nat.ble lentKey id.1 then (bif id.1 == nilKey then none else some id) else rnOf rn id
def mOf (s : St) (j : Id) : Option D := bif j.1 == nilKey then some (.v (.agg ⟨[]⟩)) else s.m j
/-- A value with other names for its blocks. -/
def renD (rn : Rn) : Nat → D → Option D
  | 0, _ => none
  | n + 1, d =>
    match d with
    | .junk => none
    | .v x => some (.v x)
    | .ptr id off => (match rnAt rn id with | some j => (bif j.1 == nilKey then none else some (.ptr j off)) | none => none)
    | .slc f sz id off len => (match rnAt rn id with | some j => (bif j.1 == nilKey then (bif off == 0 && len == 0 then some (.v (.slice none 0 0)) else none) else some (.slc f sz j off len)) | none => none)
    | .ref m c off => (match renD rn n c with | some c' => some (.ref m c' off) | none => none)
    | .row m sz c len => (match renD rn n c with | some c' => some (.row m sz c' len) | none => none)
    | .agg ds => (match mapO (renD rn n) ds with | some ds' => some (.agg ds') | none => none)
    | .tup ds => (match mapO (renD rn n) ds with | some ds' => some (.tup ds') | none => none)
    | .fn f a b => (match mapO (renD rn n) a with
      | some a' => (match mapO (renD rn n) b with | some b' => some (.fn f a' b') | none => none)
      | none => none)

def updL (l : List (Nat × D)) : Nat → D :=
  match l with
  | [] => fun _ => .junk
  | (i, d) :: r => upd (updL r) i d
def updML (l : List (Id × D)) : Id → Option D :=
  match l with
  | [] => fun _ => none
  | (i, d) :: r => updI (updML r) i (some d)
/-- The state in which some slots and some blocks are known. -/
def stOf (ls : List (Nat × D)) (ms : List (Id × D)) : St := ⟨updL ls, updML ms, fun _ => 1⟩
def Holds (rn : Rn) (s : St) : List (Nat × D) → Prop
  | [] => True
  | (i, d) :: r => renD rn depth d = some (s.t i) ∧ Holds rn s r
def HoldsM (rn : Rn) (s : St) : List (Id × D) → Prop
  | [] => True
  | (i, d) :: r => (∃ j c, rnAt rn i = some j ∧ renD rn depth d = some c ∧ mOf s j = some c) ∧ HoldsM rn s r
def rnIds (rn : Rn) : List Id := (rn.map (·.2)).filter fun j => Nat.blt j.1 lentKey
def rnOk (rn : Rn) : Bool := distinct (rnIds rn) && rn.all fun p => p.1.2.1 == 0 && Nat.blt p.1.1 lentKey && (Nat.blt p.2.1 lentKey || p.2.1 == nilKey)

section
variable {w : World} {base : Nat} {loc : Loc} {rn : Rn}

theorem rnOf_mem {id j : Id} : ∀ {rn : Rn}, rnOf rn id = some j → (id, j) ∈ rn
  | [], h => by simp [rnOf] at h
  | (i, k) :: r, h => by
    simp only [rnOf] at h
    cases hc : (id.1 == i.1 && (id.2.1 == i.2.1 && id.2.2 == i.2.2)) <;> simp only [hc, cond_true, cond_false] at h
    · exact List.mem_cons_of_mem _ (rnOf_mem h)
    · simp only [Bool.and_eq_true, beq_iff_eq] at hc
      simp only [Option.some.injEq] at h
      subst h
      obtain ⟨x, y, z⟩ := id
      obtain ⟨x', y', z'⟩ := i
      simp only at hc
      rw [hc.1, hc.2.1, hc.2.2]
      simp

theorem rnIds_cons (a b : Id) (r : Rn) : rnIds ((a, b) :: r) = if b.1 < lentKey then b :: rnIds r else rnIds r := by
  unfold rnIds
  simp only [List.map_cons, List.filter_cons, blt_eq, decide_eq_true_eq]
theorem distinct_inj : ∀ {rn : Rn}, distinct (rnIds rn) = true → ∀ {i i' j : Id}, j.1 < lentKey → rnOf rn i = some j → rnOf rn i' = some j → i = i'
  | [], _, i, i', j, _, h, _ => by simp [rnOf] at h
  | (a, b) :: r, hd, i, i', j, hlt, h, h' => by
    have hd' : distinct (rnIds r) = true := by
      rw [rnIds_cons] at hd
      split at hd
      · simp only [distinct, Bool.and_eq_true] at hd; exact hd.2
      · exact hd
    have hnot : b.1 < lentKey → ∀ x, rnOf r x = some b → False := fun hb x hx => by
      rw [rnIds_cons, if_pos hb] at hd
      simp only [distinct, Bool.and_eq_true, Bool.not_eq_true'] at hd
      have := rnOf_mem hx
      have hm : b ∈ rnIds r := by
        unfold rnIds
        rw [List.mem_filter]
        exact ⟨List.mem_map.2 ⟨_, this, rfl⟩, by rw [blt_eq]; simpa using hb⟩
      have := idIn_iff.2 hm
      rw [hd.1] at this
      cases this
    have eqa : ∀ x : Id, (x.1 == a.1 && (x.2.1 == a.2.1 && x.2.2 == a.2.2)) = true → x = a := by
      intro x hx
      simp only [Bool.and_eq_true, beq_iff_eq] at hx
      obtain ⟨p, q, s⟩ := x
      obtain ⟨p', q', s'⟩ := a
      simp only at hx
      rw [hx.1, hx.2.1, hx.2.2]
    simp only [rnOf] at h h'
    cases hc : (i.1 == a.1 && (i.2.1 == a.2.1 && i.2.2 == a.2.2)) <;> cases hc' : (i'.1 == a.1 && (i'.2.1 == a.2.1 && i'.2.2 == a.2.2)) <;> simp only [hc, hc', cond_true, cond_false] at h h'
    · exact distinct_inj (rn := r) hd' hlt h h'
    · simp only [Option.some.injEq] at h'; subst h'; exact (hnot hlt _ h).elim
    · simp only [Option.some.injEq] at h; subst h; exact (hnot hlt _ h').elim
    · rw [eqa _ hc, eqa _ hc']

/-- Where the blocks lie, by their other names. -/
def locOf (loc : Loc) (rn : Rn) : Loc := fun id => bif Nat.ble lentKey id.1 then loc id else (match rnOf rn id with
  | some j => (bif j.1 == nilKey then some (none, 0) else loc j)
  | none => none)
theorem locOf_at {id j : Id} (h : rnAt rn id = some j) (hz : (j.1 == nilKey) = false) : locOf loc rn id = loc j := by
  unfold rnAt at h
  unfold locOf
  cases hc : Nat.ble lentKey id.1 <;> simp only [hc, cond_true, cond_false] at h ⊢
  · rw [h]; simp only [hz, cond_false]
  · cases hn : (id.1 == nilKey) <;> simp only [hn, cond_true, cond_false] at h
    · simp only [Option.some.injEq] at h; rw [h]
    · cases h
theorem locOf_nil {id j : Id} (h : rnAt rn id = some j) (hz : (j.1 == nilKey) = true) : locOf loc rn id = some (none, 0) := by
  unfold rnAt at h
  unfold locOf
  cases hc : Nat.ble lentKey id.1 <;> simp only [hc, cond_true, cond_false] at h ⊢
  · rw [h]; simp only [hz, cond_true]
  · cases hn : (id.1 == nilKey) <;> simp only [hn, cond_true, cond_false] at h
    · simp only [Option.some.injEq] at h; subst h; rw [hn] at hz; cases hz
    · cases h

theorem renD_sound : ∀ (n : Nat) (d d' : D) (y : Value), renD rn n d = some d' → Rep w base loc d' y → Rep w base (locOf loc rn) d y
  | 0, d, d', y, h, _ => by simp [renD] at h
  | n + 1, d, d', y, h, hr => by
    have ih := renD_sound n
    have hav : ∀ b, loc.avoids b → (locOf loc rn).avoids b := by
      intro b hv id k hk
      unfold locOf at hk
      cases hc : Nat.ble lentKey id.1 <;> simp only [hc, cond_true, cond_false] at hk
      · cases hj : rnOf rn id with
        | none => rw [hj] at hk; cases hk
        | some j =>
          rw [hj] at hk
          simp only at hk
          cases hz : (j.1 == nilKey) <;> simp only [hz, cond_true, cond_false] at hk
          · exact hv _ _ hk
          · simp at hk
      · exact hv _ _ hk
    have ihL : ∀ (ds ds' : List D) (vs : List Value), mapO (renD rn n) ds = some ds' → RepL w base loc ds' vs → RepL w base (locOf loc rn) ds vs := by
      intro ds
      induction ds with
      | nil => intro ds' vs hm hr; simp only [mapO, Option.some.injEq] at hm; subst hm; simpa only [RepL] using hr
      | cons x ds ihd =>
        intro ds' vs hm hr
        simp only [mapO] at hm
        split at hm
        · rename_i z hz
          split at hm
          · rename_i zs hzs
            simp only [Option.some.injEq] at hm
            subst hm
            simp only [RepL] at hr ⊢
            obtain ⟨u, us, h1, h2, h3⟩ := hr
            exact ⟨u, us, h1, ih _ _ _ hz h2, ihd _ _ hzs h3⟩
          · simp at hm
        · simp at hm
    cases d with
    | junk => simp [renD] at h
    | v x => simp only [renD, Option.some.injEq] at h; subst h; simpa only [Rep] using hr
    | ptr id off =>
      simp only [renD] at h
      split at h
      · rename_i j hj
        cases hz : (j.1 == nilKey) <;> simp only [hz, cond_true, cond_false] at h
        · simp only [Option.some.injEq] at h
          subst h
          simp only [Rep] at hr ⊢
          obtain ⟨b, k, h1, h2⟩ := hr
          exact ⟨b, k, by rw [locOf_at hj hz]; exact h1, h2⟩
        · cases h
      · cases h
    | slc f sz id off len =>
      simp only [renD] at h
      split at h
      · rename_i j hj
        cases hz : (j.1 == nilKey) <;> simp only [hz, cond_true, cond_false] at h
        · simp only [Option.some.injEq] at h
          subst h
          simp only [Rep] at hr ⊢
          obtain ⟨a, cap, l, k, h1, h2, h3, h4⟩ := hr
          exact ⟨a, cap, l, k, h1, h2, by rw [locOf_at hj hz]; exact h3, h4⟩
        · cases hq : (off == 0 && len == 0) <;> simp only [hq, cond_true, cond_false] at h
          · cases h
          · simp only [Option.some.injEq] at h
            subst h
            simp only [Bool.and_eq_true, beq_iff_eq] at hq
            obtain ⟨rfl, rfl⟩ := hq
            simp only [Rep] at hr ⊢
            exact ⟨none, 0, none, 0, hr.1, Nat.le_refl _, by rw [locOf_nil hj hz], by simp, by simp, by simp⟩
      · cases h
    | ref m c off =>
      simp only [renD] at h
      split at h
      · rename_i c' hc
        simp only [Option.some.injEq] at h
        subst h
        simp only [Rep] at hr ⊢
        obtain ⟨b, o, xs, h1, h2, h3, h4, h5⟩ := hr
        exact ⟨b, o, xs, h1, h2, hav b h3, h4, ih _ _ _ hc h5⟩
      · cases h
    | row m sz c len =>
      simp only [renD] at h
      split at h
      · rename_i c' hc
        simp only [Option.some.injEq] at h
        subst h
        simp only [Rep] at hr ⊢
        obtain ⟨a, cap, xs, h1, h2, h3, h4, h5⟩ := hr
        refine ⟨a, cap, xs, h1, h2, ih _ _ _ hc h3, h4, ?_⟩
        rcases h5 with h5 | ⟨b, o, g1, g2, g3, g4⟩
        · exact .inl h5
        · exact .inr ⟨b, o, g1, g2, hav b g3, g4⟩
      · cases h
    | agg ds =>
      simp only [renD] at h
      split at h
      · rename_i ds' hds
        simp only [Option.some.injEq] at h
        subst h
        simp only [Rep] at hr ⊢
        obtain ⟨vs, h1, h2, h3⟩ := hr
        exact ⟨vs, h1, ihL _ _ _ hds h2, h3⟩
      · cases h
    | tup ds =>
      simp only [renD] at h
      split at h
      · rename_i ds' hds
        simp only [Option.some.injEq] at h
        subst h
        simp only [Rep] at hr ⊢
        obtain ⟨vs, h1, h2⟩ := hr
        exact ⟨vs, h1, ihL _ _ _ hds h2⟩
      · cases h
    | fn f a b =>
      simp only [renD] at h
      split at h
      · rename_i a' ha
        split at h
        · rename_i b' hb
          simp only [Option.some.injEq] at h
          subst h
          simp only [Rep] at hr ⊢
          obtain ⟨va, vb, h1, h2, h3⟩ := hr
          exact ⟨va, vb, h1, ihL _ _ _ ha h2, ihL _ _ _ hb h3⟩
        · cases h
      · cases h

theorem updL_get {s : St} : ∀ {l : List (Nat × D)}, Holds rn s l → ∀ i, updL l i = .junk ∨ renD rn depth (updL l i) = some (s.t i)
  | [], _, i => .inl rfl
  | (j, d) :: r, h, i => by
    simp only [updL]
    rw [upd_eq]
    split
    · rename_i e; subst e; exact .inr h.1
    · exact updL_get h.2 i
theorem updML_get {s : St} : ∀ {l : List (Id × D)}, HoldsM rn s l → ∀ i c, updML l i = some c → ∃ j c', rnAt rn i = some j ∧ renD rn depth c = some c' ∧ mOf s j = some c'
  | [], _, i, c, h => by simp [updML] at h
  | (j, d) :: r, hh, i, c, h => by
    simp only [updML] at h
    rw [updI_eq] at h
    split at h
    · rename_i e
      simp only [Option.some.injEq] at h
      subst h; subst e
      exact hh.1
    · exact updML_get hh.2 i c h

theorem sim_of {s : St} {ls : List (Nat × D)} {ms : List (Id × D)} (hok : rnOk rn = true) (h1 : Holds rn s ls) (h2 : HoldsM rn s ms) : Sim s (stOf ls ms) := by
  intro P T n w0 l0 a w loc h
  simp only [rnOk, Bool.and_eq_true] at hok
  obtain ⟨hd, hall⟩ := hok
  have hrow : ∀ i j, rnOf rn i = some j → i.2.1 = 0 ∧ i.1 < lentKey ∧ (j.1 < lentKey ∨ j.1 = nilKey) := by
    intro i j hij
    have := List.all_eq_true.1 hall _ (rnOf_mem hij)
    simp only [Bool.and_eq_true, beq_iff_eq, blt_eq, decide_eq_true_iff, Bool.or_eq_true] at this
    exact ⟨this.1.1, this.1.2, this.2⟩
  have hloc : ∀ i l, i.1 < lentKey → locOf loc rn i = some l → ∃ j, rnOf rn i = some j ∧ ((j.1 = nilKey ∧ l = (none, 0)) ∨ (j.1 < lentKey ∧ loc j = some l)) := by
    intro i l hlt hl
    unfold locOf at hl
    have hc : Nat.ble lentKey i.1 = false := by rw [Bool.eq_false_iff]; intro e; have := Nat.le_of_ble_eq_true e; omega
    rw [hc] at hl
    simp only [cond_false] at hl
    cases hj : rnOf rn i with
    | none => rw [hj] at hl; cases hl
    | some j =>
      rw [hj] at hl
      simp only at hl
      cases hz : (j.1 == nilKey) <;> simp only [hz, cond_true, cond_false] at hl
      · refine ⟨j, rfl, .inr ⟨?_, hl⟩⟩
        rcases (hrow i j hj).2.2 with h | h
        · exact h
        · rw [beq_eq_false_iff_ne] at hz; exact (hz h).elim
      · exact ⟨j, rfl, .inl ⟨by simpa using hz, by simpa using hl.symm⟩⟩
  have hhigh : ∀ i, lentKey ≤ i.1 → locOf loc rn i = loc i := by
    intro i hi
    unfold locOf
    rw [ble_true hi]; rfl
  have hat : ∀ i j, rnAt rn i = some j → (lentKey ≤ i.1 ∧ j = i) ∨ (i.1 < lentKey ∧ rnOf rn i = some j) := by
    intro i j hj
    unfold rnAt at hj
    cases hc : Nat.ble lentKey i.1 <;> simp only [hc, cond_true, cond_false] at hj
    · refine .inr ⟨?_, hj⟩
      rcases Nat.lt_or_ge i.1 lentKey with h | h
      · exact h
      · rw [ble_true h] at hc; cases hc
    · cases hn : (i.1 == nilKey) <;> simp only [hn, cond_true, cond_false] at hj
      · simp only [Option.some.injEq] at hj; exact .inl ⟨Nat.le_of_ble_eq_true hc, hj.symm⟩
      · cases hj
  refine ⟨locOf loc rn, h.types, h.size, h.small, h.defers, h.same, fun i => ?_, fun id c hc => ?_, fun id l hl hk => ?_, fun id b k hl => ?_, fun id c hc => ?_, fun id hid => ?_, fun id id' c c' b k k' hc hc' hl hl' => ?_⟩
  · simp only [stOf]
    rcases updL_get h1 i with hj | hj
    · rw [hj]; simp [Rep]
    · exact renD_sound _ _ _ _ hj (h.tmp i)
  · obtain ⟨j, c', g1, g2, g3⟩ := updML_get h2 id c hc
    unfold mOf at g3
    cases hz : (j.1 == nilKey) <;> simp only [hz, cond_true, cond_false] at g3
    · obtain ⟨l, xs, k1, k2, k3⟩ := h.mem j c' g3
      exact ⟨l, xs, by rw [locOf_at g1 hz]; exact k1, renD_sound _ _ _ _ g2 k2, k3⟩
    · simp only [Option.some.injEq] at g3
      subst g3
      refine ⟨none, [], by rw [locOf_nil g1 hz]; rfl, renD_sound _ _ _ _ g2 ?_, rfl⟩
      simp only [Rep]
      exact ⟨trivial, rfl⟩
  · obtain ⟨j, g1, _⟩ := hloc id l hk hl
    have := (hrow _ _ g1).1
    simp only [stOf]
    omega
  · rcases Nat.lt_or_ge id.1 lentKey with hlt | hge
    · obtain ⟨j, _, g2 | g2⟩ := hloc id _ hlt hl
      · simp at g2
      · have := h.range _ _ _ g2.2
        exact ⟨fun _ => this.1 (Nat.lt_trans g2.1 (by decide)), this.2⟩
    · rw [hhigh _ hge] at hl
      exact h.range _ _ _ hl
  · obtain ⟨j, d, g1, _, g3⟩ := updML_get h2 id c hc
    rcases hat _ _ g1 with ⟨q1, rfl⟩ | ⟨q1, _⟩
    · unfold mOf at g3
      cases hz : (j.1 == nilKey) <;> simp only [hz, cond_true, cond_false] at g3
      · exact h.live _ _ g3
      · simp only [beq_iff_eq] at hz; rw [hz]; decide
    · exact Nat.lt_trans q1 (by decide)
  · rw [hhigh _ hid]; exact h.lent id hid
  · obtain ⟨j, d, g1, _, g3⟩ := updML_get h2 id c hc
    obtain ⟨j', d', g1', _, g3'⟩ := updML_get h2 id' c' hc'
    have res : ∀ (id j : Id) (d : D) (k : Nat), rnAt rn id = some j → mOf s j = some d → locOf loc rn id = some (some b, k) → s.m j = some d ∧ loc j = some (some b, k) ∧ ((lentKey ≤ id.1 ∧ j = id) ∨ (id.1 < lentKey ∧ j.1 < lentKey ∧ rnOf rn id = some j)) := by
      intro id j d k g1 g3 hl
      cases hz : (j.1 == nilKey)
      · rw [locOf_at g1 hz] at hl
        unfold mOf at g3
        rw [hz] at g3
        refine ⟨g3, hl, ?_⟩
        rcases hat _ _ g1 with q | ⟨q1, q2⟩
        · exact .inl q
        · refine .inr ⟨q1, ?_, q2⟩
          rcases (hrow _ _ q2).2.2 with q | q
          · exact q
          · rw [beq_eq_false_iff_ne] at hz; exact (hz q).elim
      · rw [locOf_nil g1 hz] at hl; simp at hl
    obtain ⟨p1, p2, p3⟩ := res id j d k g1 g3 hl
    obtain ⟨p1', p2', p3'⟩ := res id' j' d' k' g1' g3' hl'
    have := h.inj _ _ _ _ _ _ _ p1 p1' p2 p2'
    subst this
    rcases p3 with ⟨q1, rfl⟩ | ⟨q1, q2, q3⟩ <;> rcases p3' with ⟨q1', q'⟩ | ⟨q1', q2', q3'⟩
    · exact q'
    · omega
    · subst q'; omega
    · exact distinct_inj hd q2 q3 q3'
end

/-- What a round hands on. -/
def Next {α : Type} (ls : α → List (Nat × D)) (ms : α → List (Id × D)) (ok : α → Prop) (μ : α → Nat) (x : α) (s : St) : Prop :=
  ∃ y : α, μ y < μ x ∧ ok y ∧ Sim s (stOf (ls y) (ms y))

/-- A LOOP: 'ls' tells slots, 'ms' blocks, of some ghost 'x'; a measure. -/
theorem loop_rule {P : Program} {T : Types} {c : Code} {Q : Ex → St → Prop} {s : St} {α : Type} (ls : α → List (Nat × D)) (ms : α → List (Id × D)) (ok : α → Prop) (μ : α → Nat) (x0 : α)
    (h0 : ok x0) (hs : Sim s (stOf (ls x0) (ms x0)))
    (round : ∀ x, ok x → wp P T c (Ex.seq (Next ls ms ok μ x) Q) (stOf (ls x) (ms x))) : wp P T (.loop c) Q s := by
  refine ⟨fun k s => ∃ x, k = μ x ∧ ok x ∧ s = stOf (ls x) (ms x), ⟨μ x0, _, hs, x0, rfl, h0, rfl⟩, ?_⟩
  rintro k s ⟨x, rfl, hok, rfl⟩
  have conv : Next ls ms ok μ x = fun s' => ∃ k' s2, k' < μ x ∧ Sim s' s2 ∧ ∃ x_1, k' = μ x_1 ∧ ok x_1 ∧ s2 = stOf (ls x_1) (ms x_1) := by
    funext s'
    simp only [Next, eq_iff_iff]
    constructor
    · rintro ⟨y, h1, h2, h3⟩; exact ⟨_, _, h1, h3, y, rfl, h2, rfl⟩
    · rintro ⟨_, _, h1, h3, y, rfl, h2, rfl⟩; exact ⟨y, h1, h2, h3⟩
  have := round x hok
  rw [conv] at this
  exact this

theorem vint {k : IntKind} {a b : Int} (h : a = b) : D.v (.int k a) = D.v (.int k b) := by rw [h]
end Go.V
