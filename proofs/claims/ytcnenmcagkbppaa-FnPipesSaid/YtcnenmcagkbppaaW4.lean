import Derived.Test.YtcnenmcagkbppaaW3
set_option linter.unusedVariables false
set_option linter.unusedSimpArgs false
/- The abstract states are sound: a call that writes to blocks that are lent to it. -/
set_option linter.unusedVariables false
set_option linter.unusedSimpArgs false
set_option linter.unusedSectionVars false
namespace Go.V
variable [Globs]

theorem idEq_iff {a b : Id} : idEq a b = true ↔ a = b := by
  obtain ⟨x, y, z⟩ := a
  obtain ⟨x', y', z'⟩ := b
  simp [idEq]

section
variable {w : World} {base : Nat} {loc : Loc}

theorem mapD_sound {base' : Nat} {loc' : Loc} {own : Bool} {f : Id → Option Id} (hf : ∀ id id' l, f id = some id' → loc id = some l → loc' id' = some l) (hav : ∀ b, loc.avoids b → loc'.avoids b) (hb : own = true → base' ≤ base) :
    ∀ (n : Nat) (d d' : D) (y : Value), mapD own f n d = some d' → Rep w base loc d y → Rep w base' loc' d' y
  | 0, d, d', y, h, _ => by simp [mapD] at h
  | n + 1, d, d', y, h, hr => by
    have ih := mapD_sound hf hav hb n
    have ihL : ∀ (ds ds' : List D) (vs : List Value), mapO (mapD own f n) ds = some ds' → RepL w base loc ds vs → RepL w base' loc' ds' vs :=
      fun ds ds' vs hm hr => mapO_rep (fun d d' y => ih d d' y) hm hr
    cases d with
    | junk => simp only [mapD, Option.some.injEq] at h; subst h; simp [Rep]
    | mp => simp only [mapD, Option.some.injEq] at h; subst h; simp [Rep]
    | v x => simp only [mapD, Option.some.injEq] at h; subst h; simpa only [Rep] using hr
    | ptr id off =>
      simp only [mapD] at h
      split at h
      · rename_i j hj
        simp only [Option.some.injEq] at h
        subst h
        simp only [Rep] at hr ⊢
        obtain ⟨b, k, h1, h2⟩ := hr
        exact ⟨b, k, hf _ _ _ hj h1, h2⟩
      · cases h
    | slc full sz id off len =>
      simp only [mapD] at h
      split at h
      · rename_i j hj
        simp only [Option.some.injEq] at h
        subst h
        simp only [Rep] at hr ⊢
        obtain ⟨a, cap, l, k, h1, h2, h3, h4⟩ := hr
        exact ⟨a, cap, l, k, h1, h2, hf _ _ _ hj h3, h4⟩
      · cases h
    | ref m c off =>
      simp only [mapD] at h
      split at h
      · rename_i c' hc
        simp only [Option.some.injEq] at h
        subst h
        simp only [Rep] at hr ⊢
        obtain ⟨b, o, xs, h1, h2, h3, h4, h5⟩ := hr
        refine ⟨b, o, xs, h1, h2, hav b h3, fun hm => ?_, ih _ _ _ hc h5⟩
        simp only [Bool.and_eq_true] at hm
        exact Nat.le_trans (hb hm.1) (h4 hm.2)
      · cases h
    | row m sz c len =>
      simp only [mapD] at h
      split at h
      · rename_i c' hc
        simp only [Option.some.injEq] at h
        subst h
        simp only [Rep] at hr ⊢
        obtain ⟨a, cap, xs, h1, h2, h3, h4, h5, hO⟩ := hr
        refine ⟨a, cap, xs, h1, h2, ih _ _ _ hc h3, h4, ?_, fun hm => ?_⟩
        rotate_left
        · simp only [Bool.and_eq_true] at hm
          rcases hO hm.2 with hO | ⟨b, k, e, q1, q2, q3, q4⟩
          · exact .inl hO
          · exact .inr ⟨b, k, e, q1, hav b q2, Nat.le_trans (hb hm.1) q3, q4⟩
        rcases h5 with h5 | ⟨b, o, g1, g2, g3, g4⟩
        · exact .inl h5
        · refine .inr ⟨b, o, g1, g2, hav b g3, fun hm => ?_⟩
          simp only [Bool.and_eq_true] at hm
          exact Nat.le_trans (hb hm.1) (g4 hm.2)
      · cases h
    | agg ds =>
      simp only [mapD] at h
      split at h
      · rename_i ds' hds
        simp only [Option.some.injEq] at h
        subst h
        simp only [Rep] at hr ⊢
        obtain ⟨vs, h1, h2, h3⟩ := hr
        exact ⟨vs, h1, ihL _ _ _ hds h2, h3⟩
      · cases h
    | tup ds =>
      simp only [mapD] at h
      split at h
      · rename_i ds' hds
        simp only [Option.some.injEq] at h
        subst h
        simp only [Rep] at hr ⊢
        obtain ⟨vs, h1, h2⟩ := hr
        exact ⟨vs, h1, ihL _ _ _ hds h2⟩
      · cases h
    | fn g a b =>
      simp only [mapD] at h
      split at h
      · rename_i a' ha
        split at h
        · rename_i b' hbb
          simp only [Option.some.injEq] at h
          subst h
          simp only [Rep] at hr ⊢
          obtain ⟨va, vb, h1, h2, h3⟩ := hr
          exact ⟨va, vb, h1, ihL _ _ _ ha h2, ihL _ _ _ hbb h3⟩
        · cases h
      · cases h
end

theorem findId_some : ∀ {l : List Id} {id : Id} {k0 k : Nat}, findId l id k0 = some k → k0 ≤ k ∧ l[k - k0]? = some id
  | [], id, k0, k, h => by simp [findId] at h
  | a :: r, id, k0, k, h => by
    simp only [findId] at h
    cases hc : idEq a id <;> simp only [hc, cond_true, cond_false] at h
    · obtain ⟨h1, h2⟩ := findId_some h
      refine ⟨by omega, ?_⟩
      rw [show k - k0 = (k - (k0 + 1)) + 1 by omega]
      simpa using h2
    · simp only [Option.some.injEq] at h
      subst h
      rw [idEq_iff] at hc
      subst hc
      exact ⟨Nat.le_refl _, by simp⟩
theorem lendF_some {l : List Id} {id id' : Id} (h : lendF l id = some id') : ∃ k, id' = lentId k ∧ l[k]? = some id := by
  unfold lendF at h
  split at h
  · rename_i k hk
    simp only [Option.some.injEq] at h
    obtain ⟨_, h2⟩ := findId_some hk
    exact ⟨k, h.symm, by simpa using h2⟩
  · cases h
theorem distinctIds_get : ∀ {l : List Id}, distinctIds l = true → ∀ {k k' : Nat} {id : Id}, l[k]? = some id → l[k']? = some id → k = k'
  | [], _, k, k', id, h, _ => by simp at h
  | a :: r, hd, k, k', id, h, h' => by
    simp only [distinctIds, Bool.and_eq_true, Bool.not_eq_true'] at hd
    have no : ∀ j, r[j]? = some a → False := fun j hj => by
      have : r.any (idEq a) = true := List.any_eq_true.2 ⟨a, List.mem_of_getElem? hj, idEq_iff.2 rfl⟩
      rw [hd.1] at this; cases this
    cases k with
    | zero =>
      cases k' with
      | zero => rfl
      | succ j' => simp at h h'; subst h; exact (no _ h').elim
    | succ j =>
      cases k' with
      | zero => simp at h h'; subst h'; exact (no _ h).elim
      | succ j' => simp at h h'; rw [distinctIds_get hd.2 h h']
theorem setL_not {id : Id} : ∀ {l : List Id} {cs : List (Option D)} {m : Id → Option D}, id ∉ l → setL m l cs id = m id
  | [], cs, m, _ => by cases cs <;> rfl
  | a :: r, [], m, _ => rfl
  | a :: r, c :: cs, m, h => by
    simp only [List.mem_cons, not_or] at h
    simp only [setL]
    rw [setL_not h.2]
    have : idEq a id = false := by
      rw [Bool.eq_false_iff]; intro e; exact h.1 (idEq_iff.1 e).symm
    rw [this]; rfl
theorem setL_at {id : Id} : ∀ {l : List Id} {cs : List (Option D)} {m : Id → Option D} {k : Nat}, distinctIds l = true → cs.length = l.length → l[k]? = some id → setL m l cs id = (cs[k]?).join
  | [], cs, m, k, _, _, h => by simp at h
  | a :: r, [], m, k, _, hl, h => by simp at hl
  | a :: r, c :: cs, m, 0, hd, hl, h => by
    simp only [List.getElem?_cons_zero, Option.some.injEq] at h
    subst h
    simp only [distinctIds, Bool.and_eq_true, Bool.not_eq_true'] at hd
    simp only [setL]
    have : a ∉ r := fun hm => by
      have : r.any (idEq a) = true := List.any_eq_true.2 ⟨a, hm, idEq_iff.2 rfl⟩
      rw [hd.1] at this; cases this
    rw [setL_not this, idEq_iff.2 rfl]
    simp
  | a :: r, c :: cs, m, k + 1, hd, hl, h => by
    simp only [distinctIds, Bool.and_eq_true] at hd
    simp only [setL]
    simp only [List.getElem?_cons_succ] at h ⊢
    exact setL_at hd.2 (by simpa using hl) h
theorem mapO_getO {α β : Type} {f : α → Option β} : ∀ {l : List α} {l' : List β}, mapO f l = some l' → ∀ (j : Nat), (∀ x, l[j]? = some x → ∃ y, l'[j]? = some y ∧ f x = some y) ∧ (∀ y, l'[j]? = some y → ∃ x, l[j]? = some x ∧ f x = some y)
  | [], l', h, j => by
    simp only [mapO, Option.some.injEq] at h
    subst h
    simp
  | x :: l, l', h, j => by
    simp only [mapO] at h
    split at h
    · rename_i y hy
      split at h
      · rename_i ys hys
        simp only [Option.some.injEq] at h
        subst h
        cases j with
        | zero => simpa using hy
        | succ j => simpa using mapO_getO hys j
      · cases h
    · cases h
theorem nth_join {ms : List (Option D)} {k : Nat} {c : D} (h : (nth ms k).join = some c) : ms[k]? = some (some c) := by
  rw [nth_eq] at h
  cases hk : ms[k]? with
  | none => rw [hk] at h; simp at h
  | some x => rw [hk] at h; simp at h; rw [h]
theorem lentM_some {ms : List D} {id : Id} {c : D} (h : lentM ms id = some c) : ∃ k, id = lentId k ∧ ms[k]? = some c ∧ id.1 < guardKey := by
  unfold lentM at h
  obtain ⟨x, y, z⟩ := id
  cases hc : (Nat.ble lentKey x && (Nat.blt x guardKey && (y == 0 && z == 0))) <;> simp only [hc, cond_true, cond_false] at h
  · cases h
  · simp only [Bool.and_eq_true, Nat.ble_eq, beq_iff_eq] at hc
    obtain ⟨h1, h2, rfl, rfl⟩ := hc
    have h2' : x < guardKey := by rw [Nat.blt_eq] at h2; exact h2 
    rw [nth_eq] at h
    exact ⟨x - lentKey, by unfold lentId; rw [show lentKey + (x - lentKey) = x by omega], h, h2'⟩
theorem outM_some {ms : List (Option D)} {news : List D} {id : Id} {c : D} (h : outM ms news id = some c) :
    (∃ k, id = lentId k ∧ ms[k]? = some (some c) ∧ id.1 < guardKey) ∨ (∃ j, id = (0, 0, j) ∧ news[j]? = some c) := by
  unfold outM at h
  obtain ⟨x, y, z⟩ := id
  cases h0 : Nat.ble lentKey x <;> simp only [h0, cond_true, cond_false] at h
  · cases hc : (x == 0 && y == 0) <;> simp only [hc, cond_true, cond_false] at h
    · cases h
    · simp only [Bool.and_eq_true, beq_iff_eq] at hc
      obtain ⟨rfl, rfl⟩ := hc
      rw [nth_eq] at h
      exact .inr ⟨z, rfl, h⟩
  · cases hc : (Nat.blt x guardKey && (y == 0 && z == 0)) <;> simp only [hc, cond_true, cond_false] at h
    · cases h
    · simp only [Bool.and_eq_true, beq_iff_eq] at hc
      obtain ⟨h2, rfl, rfl⟩ := hc
      have h1 : lentKey ≤ x := Nat.le_of_ble_eq_true h0
      have h2' : x < guardKey := by rw [Nat.blt_eq] at h2; exact h2
      exact .inl ⟨x - lentKey, by unfold lentId; rw [show lentKey + (x - lentKey) = x by omega], nth_join h, h2'⟩
theorem outM_lent {ms : List (Option D)} {news : List D} {k : Nat} {c : D} (h : ms[k]? = some (some c)) (hk : lentKey + k < guardKey) : outM ms news (lentId k) = some c := by
  unfold outM lentId
  have h1 : Nat.ble lentKey (lentKey + k) = true := by rw [Nat.ble_eq]; omega
  have h2 : Nat.blt (lentKey + k) guardKey = true := by rw [Nat.blt_eq]; exact hk
  simp only [h1, h2, cond_true, beq_self_eq_true, Bool.and_self]
  rw [nth_eq, show lentKey + k - lentKey = k by omega, h]; rfl
theorem outM_new {ms : List (Option D)} {news : List D} {j : Nat} {c : D} (h : news[j]? = some c) : outM ms news (0, 0, j) = some c := by
  unfold outM
  have h1 : Nat.ble lentKey 0 = false := by decide
  simp only [h1, cond_false, beq_self_eq_true, Bool.and_self, cond_true]
  rw [nth_eq, h]
theorem backC_some {f : Id → Option Id} {o : Option D} {c : D} (h : backC f o = some (some c)) : ∃ c0, o = some c0 ∧ mapD true f depth c0 = some c := by
  cases o with
  | none => simp [backC] at h
  | some c0 =>
    simp only [backC] at h
    split at h
    · rename_i c' hc'
      simp only [Option.some.injEq] at h
      subst h
      exact ⟨c0, rfl, hc'⟩
    · cases h

/-- Where a callee sees the blocks. -/
def locL (loc : Loc) (lend : List Id) : Loc := fun id =>
  if guardKey ≤ id.1 then loc (id.1 - guardKey, id.2.1, id.2.2)
  else if lentKey ≤ id.1 ∧ id.2.1 = 0 ∧ id.2.2 = 0 then (match lend[id.1 - lentKey]? with | some i => loc i | none => none) else none
theorem locL_guard (loc : Loc) (lend : List Id) (id : Id) : locL loc lend (guardKey + id.1, id.2.1, id.2.2) = loc id := by
  unfold locL
  rw [if_pos (by simp)]
  simp
theorem locL_lent {loc : Loc} {lend : List Id} {k : Nat} {id : Id} (h : lend[k]? = some id) (hk : lentKey + k < guardKey) : locL loc lend (lentId k) = loc id := by
  unfold locL lentId
  rw [if_neg (by simp only; omega), if_pos ⟨by simp, rfl, rfl⟩]
  simp only [show lentKey + k - lentKey = k by omega, h]
theorem locL_sub {loc : Loc} {lend : List Id} {id : Id} {l : Option Nat × Nat} (h : locL loc lend id = some l) : ∃ i, loc i = some l := by
  unfold locL at h
  split at h
  · exact ⟨_, h⟩
  · split at h
    · split at h
      · exact ⟨_, h⟩
      · cases h
    · cases h

section
variable {P : Program} {T : Types} {n bs : Nat} {w0 w : World} {l0 : Loc} {s : St} {a : Act} {loc : Loc}

/-- What a call that writes to lent blocks leaves. -/
theorem after_call (h : Inv P T n w0 bs l0 s a w loc) {lend : List Id} {ms : List D} {res : D} {ms' : List (Option D)} {news : List D} (hdist : distinctIds lend = true)
    {own : Bool} (hms : mapO (lendC own s.m (lendF lend)) lend = some ms) (hcount : lentKey + lend.length < guardKey) {w' : World} {y : Value} {locr : Loc} {bc : Nat} (hbc : bs ≤ bc) (hb : Back w w' bc (locL loc lend) res ms' news y locr)
    {i : Nat} (hi : i < lentKey) (bf : Id → Option Id) (hbf : ∀ id id', bf id = some id' → backF lend i (s.c i) id = some id') {ms2 : List (Option D)} {news2 : List D}
    (h2 : mapO (backC bf) ms' = some ms2) (h3 : mapO (mapD true bf depth) news = some news2) (hlen : ms2.length = lend.length) :
    Ext bs bs w loc w' (locR loc i (s.c i) fun j => locr (0, 0, j)) ∧
    (∀ d d2 z, mapD true bf depth d = some d2 → Rep w' bc locr d z → Rep w' bs (locR loc i (s.c i) fun j => locr (0, 0, j)) d2 z) ∧
    (∀ (t2 : Nat → D) (a2 : Act), a2.tmps.size = n → a2.defers = [] → (∀ j, Rep w' bs (locR loc i (s.c i) fun j => locr (0, 0, j)) (t2 j) (a2.tmps.getD j undef)) →
      Inv P T n w0 bs l0 { t := t2, m := updR (setL s.m lend ms2) i (s.c i) (fun j => nth news2 j), c := upd s.c i (s.c i + 1) } a2 w' (locR loc i (s.c i) fun j => locr (0, 0, j))) := by
  have hfr : ∀ id l, loc id = some l → id.1 = i → id.2.1 < s.c i := fun id l hl hk => by
    have := h.cnt id l hl (by rw [hk]; exact hi)
    rw [hk] at this; exact this
  have hkeep : ∀ id l, loc id = some l → (locR loc i (s.c i) fun j => locr (0, 0, j)) id = some l := by
    intro id l hl
    rw [locR_eq, if_neg]
    · exact hl
    · rintro ⟨g1, g2⟩; have := hfr id l hl g1; omega
  have hlend : ∀ (k : Nat) (id : Id), lend[k]? = some id → ∃ c, s.m id = some c := by
    intro k id hk
    obtain ⟨y, _, hy⟩ := (mapO_getO hms k).1 _ hk
    unfold lendC at hy
    split at hy
    · rename_i c hc; exact ⟨c, hc⟩
    · cases hy
  have hlt : ∀ (k : Nat) (id : Id), lend[k]? = some id → lentKey + k < guardKey := fun k id hk => by
    have := (List.getElem?_eq_some_iff.1 hk).1; omega
  have hch : ∀ b, chOf (locL loc lend) b → ∃ (k : Nat) (id : Id) (n : Nat) (c : D), lend[k]? = some id ∧ loc id = some (some b, n) ∧ s.m id = some c := by
    rintro b ⟨id, n, g1, g2, g3⟩
    unfold locL at g3
    rw [if_neg (by omega)] at g3
    split at g3
    · split at g3
      · rename_i i' hi'
        obtain ⟨c, hc⟩ := hlend _ _ hi'
        exact ⟨_, i', n, c, hi', g3, hc⟩
      · cases g3
    · cases g3
  have hchw : ∀ b, chOf (locL loc lend) b → w0.heap.size ≤ b ∨ chOf l0 b := by
    intro b hbb
    obtain ⟨k, id, n, c, g1, g2, g3⟩ := hch b hbb
    exact (h.range _ _ _ g2).1 (h.live _ _ g3)
  have hchs : ∀ b, chOf (locL loc lend) b → b < w.heap.size := by
    intro b hbb
    obtain ⟨k, id, n, c, g1, g2, g3⟩ := hch b hbb
    exact (h.range _ _ _ g2).2
  have havs : ∀ b, loc.avoids b → ¬ chOf (locL loc lend) b := by
    intro b hv hbb
    obtain ⟨k, id, n, c, g1, g2, g3⟩ := hch b hbb
    exact hv _ _ g2
  have hnew : ∀ j b n, locr (0, 0, j) = some (some b, n) → (w.heap.size ≤ b ∨ chOf (locL loc lend) b) ∧ b < w'.heap.size := fun j b n hl => hb.range _ _ _ hl (by show 0 < lentKey; decide)
  have hav2 : ∀ b, locr.avoids b → (locR loc i (s.c i) fun j => locr (0, 0, j)).avoids b := by
    intro b hv id n hl
    rw [locR_eq] at hl
    split at hl
    · exact hv _ _ hl
    · have := hb.keep (guardKey + id.1, id.2.1, id.2.2) (by simp only [guardKey, lentKey]; omega)
      rw [locL_guard] at this
      exact hv _ _ (this.trans hl)
  have hf2 : ∀ id id' l, bf id = some id' → locr id = some l → (locR loc i (s.c i) fun j => locr (0, 0, j)) id' = some l := by
    intro id id' l hbfi hl
    have hback := hbf _ _ hbfi
    unfold backF at hback
    obtain ⟨x, y, z⟩ := id
    cases hc0 : Nat.ble lentKey x <;> simp only [hc0, cond_true, cond_false] at hback
    · cases hc : (x == 0 && y == 0) <;> simp only [hc, cond_true, cond_false] at hback
      · cases hback
      · simp only [Bool.and_eq_true, beq_iff_eq] at hc
        obtain ⟨rfl, rfl⟩ := hc
        simp only [Option.some.injEq] at hback
        subst hback
        rw [locR_eq, if_pos ⟨rfl, rfl⟩]
        exact hl
    · cases hc : (Nat.blt x guardKey && (y == 0 && z == 0)) <;> simp only [hc, cond_true, cond_false] at hback
      · cases hback
      · simp only [Bool.and_eq_true, beq_iff_eq] at hc
        obtain ⟨g1, rfl, rfl⟩ := hc
        have g0 : lentKey ≤ x := Nat.le_of_ble_eq_true hc0
        rw [nth_eq] at hback
        have hx : ((x, 0, 0) : Id) = lentId (x - lentKey) := by unfold lentId; rw [show lentKey + (x - lentKey) = x by omega]
        have := hb.keep (x, 0, 0) g0
        rw [hx, locL_lent hback (hlt _ _ hback), ← hx] at this
        exact hkeep _ _ (this.symm.trans hl)
  have hext : Ext bs bs w loc w' (locR loc i (s.c i) fun j => locr (0, 0, j)) := by
    refine ⟨Nat.le_refl _, hkeep, ?_, ?_, fun b es cl hk hp => ⟨es, cl, hb.same.maps b es cl hk, hp⟩⟩
    · intro b k e fr hk hv
      have hbl : b < w.heap.size := (Array.getElem?_eq_some_iff.1 hk).1
      refine ⟨by rw [hb.same.block b hbl (havs b hv)]; exact hk, ?_⟩
      intro id n hl
      rw [locR_eq] at hl
      split at hl
      · rcases (hnew _ _ _ hl).1 with g | g
        · omega
        · exact havs b hv g
      · exact hv _ _ hl
    · intro id b n k e fr hl hk
      exact hb.same.grow b k e fr hk
  have hmap : ∀ d d2 z, mapD true bf depth d = some d2 → Rep w' bc locr d z → Rep w' bs (locR loc i (s.c i) fun j => locr (0, 0, j)) d2 z :=
    fun d d2 z hm hr => mapD_sound hf2 hav2 (fun _ => hbc) depth d d2 z hm hr
  refine ⟨hext, hmap, ?_⟩
  intro t2 a2 hs2 hd2 ht2
  -- the contents behind the call, by the callee's names
  have hcont : ∀ id c, updR (setL s.m lend ms2) i (s.c i) (fun j => nth news2 j) id = some c →
      (∃ id0 c0, outM ms' news id0 = some c0 ∧ mapD true bf depth c0 = some c ∧ (∀ l, locr id0 = some l → (locR loc i (s.c i) fun j => locr (0, 0, j)) id = some l) ∧
        ((∃ j, id0 = (0, 0, j) ∧ id.1 = i ∧ id.2.1 = s.c i ∧ id.2.2 = j) ∨ (∃ k, id0 = lentId k ∧ lend[k]? = some id ∧ ¬ (id.1 = i ∧ id.2.1 = s.c i)))) ∨
      (s.m id = some c ∧ id ∉ lend ∧ ¬ (id.1 = i ∧ id.2.1 = s.c i)) := by
    intro id c hc
    rw [updR_eq] at hc
    split at hc
    · rename_i hid
      rw [nth_eq] at hc
      obtain ⟨c0, g1, g2⟩ := (mapO_getO h3 _).2 _ hc
      left
      refine ⟨(0, 0, id.2.2), c0, outM_new g1, g2, ?_, .inl ⟨_, rfl, hid.1, hid.2, rfl⟩⟩
      intro l hl
      rw [locR_eq, if_pos hid]; exact hl
    · rename_i hid
      by_cases hmem : id ∈ lend
      · obtain ⟨k, hk⟩ := List.mem_iff_getElem?.1 hmem
        rw [setL_at hdist hlen hk] at hc
        have hc' : ms2[k]? = some (some c) := by rw [← nth_eq] at hc; exact nth_join hc
        obtain ⟨o, g1, g2⟩ := (mapO_getO h2 k).2 _ hc'
        obtain ⟨c0, rfl, g3⟩ := backC_some g2
        left
        refine ⟨lentId k, c0, outM_lent g1 (hlt _ _ hk), g3, ?_, .inr ⟨k, rfl, hk, hid⟩⟩
        intro l hl
        have := hb.keep (lentId k) (by simp [lentId])
        rw [locL_lent hk (hlt _ _ hk)] at this
        exact hkeep _ _ (this.symm.trans hl)
      · rw [setL_not hmem] at hc
        exact .inr ⟨hc, hmem, hid⟩
  have hother : ∀ id c b n, s.m id = some c → id ∉ lend → loc id = some (some b, n) → ¬ chOf (locL loc lend) b := by
    intro id c b n hc hmem hl hbb
    obtain ⟨k, id', n', c', g1, g2, g3⟩ := hch b hbb
    have := h.inj _ _ _ _ _ _ _ hc g3 hl g2
    subst this
    exact hmem (List.mem_of_getElem? g1)
  refine ⟨h.types, h.low, (fun e => h.solo (by simp only at e; rw [upd_eq, if_neg (by omega)] at e; exact e)), hs2, h.small, hd2, ?_, ht2, ?_, ?_, ?_, ?_, ?_, ?_, h.glob.ext hext⟩
  · refine ⟨hb.same.os.trans h.same.os, hb.same.tape.trans h.same.tape, hb.same.output.trans h.same.output, Nat.le_trans h.same.size hb.same.size, ?_, ?_, fun b es cl hk => hb.same.maps _ _ _ (h.same.maps _ _ _ hk)⟩
    · intro k hk hc
      rw [hb.same.block k (Nat.lt_of_lt_of_le hk h.same.size) ?_, h.same.block k hk hc]
      intro hbb
      rcases hchw k hbb with g | g
      · omega
      · exact hc g
    · intro b k e fr hk
      obtain ⟨k', e', fr', g1, g2⟩ := h.same.grow b k e fr hk
      obtain ⟨k2, e2, fr2, g3, g4⟩ := hb.same.grow b k' e' fr' g1
      exact ⟨k2, e2, fr2, g3, Nat.le_trans g2 g4⟩
  · intro id c hc
    rcases hcont id c hc with ⟨id0, c0, g1, g2, g3, _⟩ | ⟨g1, g2, g3⟩
    · obtain ⟨l, xs, q1, q2, q3⟩ := hb.mem id0 c0 g1
      exact ⟨l, xs, g3 _ q1, hmap _ _ _ g2 q2, q3⟩
    · obtain ⟨l, xs, q1, q2, q3⟩ := h.mem id c g1
      refine ⟨l, xs, hkeep _ _ q1, Rep.ext hext _ _ q2, ?_⟩
      cases l with
      | none => exact q3
      | some b =>
        obtain ⟨kk, e, r1, r2⟩ := q3
        exact ⟨kk, e, by rw [hb.same.block b (h.range _ _ _ q1).2 (hother id c b _ g1 g2 q1)]; exact r1, r2⟩
  · intro id l hl hk
    rw [locR_eq] at hl
    simp only
    rw [upd_eq]
    split at hl
    · rename_i hid; rw [if_pos hid.1]; omega
    · have := h.cnt id l hl hk
      split
      · rename_i hid; rw [hid] at this; omega
      · exact this
  · intro id b k hl
    rw [locR_eq] at hl
    split at hl
    · rename_i hid
      obtain ⟨g1, g2⟩ := hnew _ _ _ hl
      refine ⟨fun _ => ?_, g2⟩
      rcases g1 with g | g
      · exact .inl (Nat.le_trans h.same.size g)
      · exact hchw _ g
    · obtain ⟨g1, g2⟩ := h.range _ _ _ hl
      exact ⟨g1, Nat.lt_of_lt_of_le g2 hb.same.size⟩
  · intro id c hc
    rcases hcont id c hc with ⟨id0, c0, g1, g2, g3, g4⟩ | ⟨g1, g2, g3⟩
    · rcases g4 with ⟨j, _, q1, _, _⟩ | ⟨k, _, q1, _⟩
      · rw [q1]; exact Nat.lt_trans hi (by decide)
      · obtain ⟨c', hc'⟩ := hlend _ _ q1
        exact h.live _ _ hc'
    · exact h.live _ _ g1
  · intro id hid
    rw [locR_eq, if_neg]
    · exact h.lent id hid
    · rintro ⟨g1, _⟩
      have := hi
      omega
  · intro id id' c c' b k k' hc hc' hl hl'
    have low : ∀ id0 c0, outM ms' news id0 = some c0 → ∀ l, locr id0 = some l → ∃ l', l = l' := fun _ _ _ l _ => ⟨l, rfl⟩
    have where_ : ∀ id c b k, updR (setL s.m lend ms2) i (s.c i) (fun j => nth news2 j) id = some c → (locR loc i (s.c i) fun j => locr (0, 0, j)) id = some (some b, k) →
        (∃ id0 c0, outM ms' news id0 = some c0 ∧ locr id0 = some (some b, k) ∧ ((∃ j, id0 = (0, 0, j) ∧ id.1 = i ∧ id.2.1 = s.c i ∧ id.2.2 = j) ∨ (∃ k, id0 = lentId k ∧ lend[k]? = some id ∧ ¬ (id.1 = i ∧ id.2.1 = s.c i)))) ∨
        (s.m id = some c ∧ id ∉ lend ∧ loc id = some (some b, k)) := by
      intro id c b k hc hl
      rcases hcont id c hc with ⟨id0, c0, g1, g2, g3, g4⟩ | ⟨g1, g2, g3⟩
      · left
        obtain ⟨l, xs, q1, _, _⟩ := hb.mem id0 c0 g1
        have := g3 _ q1
        rw [hl] at this
        cases this
        exact ⟨id0, c0, g1, q1, g4⟩
      · right
        rw [locR_eq, if_neg g3] at hl
        exact ⟨g1, g2, hl⟩
    have bnew : ∀ id0 c0 b k, outM ms' news id0 = some c0 → locr id0 = some (some b, k) → w.heap.size ≤ b ∨ chOf (locL loc lend) b := by
      intro id0 c0 b k g1 g2
      rcases outM_some g1 with ⟨kk, rfl, q1, q2⟩ | ⟨j, rfl, q1⟩
      · right
        refine ⟨lentId kk, k, by simp [lentId], q2, ?_⟩
        rw [← hb.keep _ (by simp [lentId])]; exact g2
      · exact (hnew _ _ _ g2).1
    rcases where_ id c b k hc hl with ⟨id0, c0, g1, g2, g3⟩ | ⟨g1, g2, g3⟩ <;> rcases where_ id' c' b k' hc' hl' with ⟨id0', c0', g1', g2', g3'⟩ | ⟨g1', g2', g3'⟩
    · have := hb.inj _ _ _ _ _ _ _ g1 g1' g2 g2'
      subst this
      rcases g3 with ⟨j, rfl, q1, q2, q3⟩ | ⟨kk, rfl, q1, q2⟩ <;> rcases g3' with ⟨j', e, q1', q2', q3'⟩ | ⟨kk', e, q1', q2'⟩
      · obtain ⟨x, y, z⟩ := id
        obtain ⟨x', y', z'⟩ := id'
        simp only [Prod.mk.injEq, true_and] at e q1 q2 q3 q1' q2' q3'
        rw [q1, q2, q3, q1', q2', q3', e]
      · simp [lentId, lentKey] at e; omega
      · simp [lentId, lentKey] at e
      · have : kk = kk' := by simp [lentId] at e; exact e
        subst this
        rw [q1] at q1'
        exact Option.some.inj q1'
    · exfalso
      rcases bnew _ _ _ _ g1 g2 with q | q
      · have := (h.range _ _ _ g3').2; omega
      · exact hother _ _ _ _ g1' g2' g3' q
    · exfalso
      rcases bnew _ _ _ _ g1' g2' with q | q
      · have := (h.range _ _ _ g3).2; omega
      · exact hother _ _ _ _ g1 g2 g3 q
    · exact h.inj _ _ _ _ _ _ _ g1 g1' g3 g3'

/-- A CALL THAT WRITES TO LENT BLOCKS. -/
theorem callM_sound {o : Oper} {f : Operand} {args : Array Operand} {ts : Array TypeId} {K : St → Prop} (h : Inv P T n w0 bs l0 s a w loc) (hd : ∀ i, o.dst = some i → i < n)
    (ho : o.op = .call { callee := .value f, args, argTypes := ts }) {own : Bool} (hk : callMK own P s (s.ev f) (args.toList.map s.ev) o.dst K) :
    Done P o a w fun y w' => ∃ s' loc', K s' ∧ Inv P T n w0 bs l0 s' (a.put o.dst y) w' loc' := by
  have go : ∀ {g : FuncId} {first caps : List D}, s.ev f = .fn (.func g) first caps → ∀ {lend : List Id} {dargs ms : List D} {res : D} {ms' : List (Option D)} {news : List D}, distinctIds lend = true →
      mapO (mapD own (lendF lend) depth) (first ++ (args.toList.map s.ev ++ caps)) = some dargs → mapO (lendC own s.m (lendF lend)) lend = some ms → SatB own P g dargs ms res ms' news → lentKey + lend.length < guardKey →
      ∀ R : Value → World → Prop, (∀ y w' locr bc, bs ≤ bc → Back w w' bc (locL loc lend) res ms' news y locr → R y w') → Done P o a w R := by
    intro g first caps hf lend dargs ms res ms' news hdist h1 hms hsat hcount R hR
    obtain ⟨⟨fn, c, hfn, hbody, hname⟩, hsat⟩ := hsat
    have hev := h.ev f
    rw [hf] at hev
    simp only [Rep] at hev
    obtain ⟨fa, cb, hval, hfa, hcb⟩ := hev
    have hlt : ∀ (k : Nat) (id : Id), lend[k]? = some id → lentKey + k < guardKey := fun k id hk => by
      have := (List.getElem?_eq_some_iff.1 hk).1; omega
    have hf1 : ∀ id id' l, lendF lend id = some id' → loc id = some l → locL loc lend id' = some l := by
      intro id id' l hfi hl
      obtain ⟨k, rfl, hk⟩ := lendF_some hfi
      rw [locL_lent hk (hlt _ _ hk)]; exact hl
    have hav1 : ∀ b, loc.avoids b → (locL loc lend).avoids b := by
      intro b hv id n hl
      obtain ⟨i, hi⟩ := locL_sub hl
      exact hv _ _ hi
    obtain ⟨bc, hbc1, hbc2, hbc3, hbc4⟩ : ∃ bc, bs ≤ bc ∧ bc ≤ w.heap.size ∧ (own = true → bc ≤ bs) ∧ (own = false → bc = w.heap.size) := by
      have hle := Nat.le_trans h.low.1 h.same.size
      cases own
      · exact ⟨w.heap.size, hle, Nat.le_refl _, (by simp), fun _ => rfl⟩
      · exact ⟨bs, Nat.le_refl _, hle, fun _ => Nat.le_refl _, (by simp)⟩
    have hmap : ∀ d d' y, mapD own (lendF lend) depth d = some d' → Rep w bs loc d y → Rep w bc (locL loc lend) d' y :=
      fun d d' y hm hr => mapD_sound hf1 hav1 hbc3 depth d d' y hm hr
    have hargs : RepL w bc (locL loc lend) dargs (fa ++ (args.toList.map a.eval ++ cb)) :=
      mapO_rep hmap h1 (hfa.append ((evs_rep h.ev _).append hcb))
    have hlent : Lent w bc (locL loc lend) ms := by
      have cont : ∀ id c, lentM ms id = some c → ∃ (k : Nat) (id0 : Id) (c0 : D), id = lentId k ∧ lend[k]? = some id0 ∧ s.m id0 = some c0 ∧ mapD own (lendF lend) depth c0 = some c := by
        intro id c hc
        obtain ⟨k, rfl, hk, _⟩ := lentM_some hc
        obtain ⟨id0, g1, g2⟩ := (mapO_getO hms k).2 _ hk
        unfold lendC at g2
        split at g2
        · rename_i c0 hc0; exact ⟨k, id0, c0, rfl, g1, hc0, g2⟩
        · cases g2
      refine ⟨?_, ?_, ?_, ?_⟩
      · intro id l hl
        unfold locL at hl
        split at hl
        · rename_i hg; exact Nat.le_trans (by decide) hg
        · split at hl
          · rename_i hg; exact hg.1
          · cases hl
      · intro id c hc
        obtain ⟨k, id0, c0, rfl, g1, g2, g3⟩ := cont id c hc
        obtain ⟨l, xs, q1, q2, q3⟩ := h.mem id0 c0 g2
        exact ⟨l, xs, by rw [locL_lent g1 (hlt _ _ g1)]; exact q1, hmap _ _ _ g3 q2, q3⟩
      · intro id b n hl
        obtain ⟨i, hi⟩ := locL_sub hl
        exact (h.range _ _ _ hi).2
      · intro id id' c c' b n n' hc hc' hl hl'
        obtain ⟨k, id0, c0, rfl, g1, g2, g3⟩ := cont id c hc
        obtain ⟨k', id0', c0', rfl, g1', g2', g3'⟩ := cont id' c' hc'
        rw [locL_lent g1 (hlt _ _ g1)] at hl
        rw [locL_lent g1' (hlt _ _ g1')] at hl'
        have := h.inj _ _ _ _ _ _ _ g2 g2' hl hl'
        subst this
        rw [distinctIds_get hdist g1 g1']
    refine .inr (.inr ⟨g, ⟨fa ++ (args.toList.map a.eval ++ cb)⟩, w, ?_, ?_⟩)
    · have hn' : ¬ fn.name = "runtime.NumGoroutine" := by simpa using hname
      have e : (⟨fa⟩ ++ (args.map a.eval ++ ⟨cb⟩) : Array Value) = ⟨fa ++ (args.toList.map a.eval ++ cb)⟩ := by
        apply Array.ext'; simp
      simp [execOp, ho, resolve, hval, Deferred.ofValue, invoke, callFunc, hfn, hn', hbody, e]
    · refine (hsat w _ _ bc hbc2 hbc4 (h.glob.loc hav1) hlent hargs).mono ?_
      rintro e w' ⟨y, locr, rfl, hb⟩
      exact ⟨y, rfl, hR y w' locr bc hbc1 hb⟩
  unfold callMK at hk
  split at hk
  · rename_i g first caps i hf hdst
    obtain ⟨lend, dargs, ms, res, ms', news, res2, ms2, news2, hcount, hdist, h1, hms, hsat, h4, h2, h3, hlen, hK⟩ := hk
    refine go hf hdist h1 hms hsat (by have := Nat.le_of_ble_eq_true hcount; simp only [lentKey, guardKey]; omega) (fun y w' => ∃ s' loc', K s' ∧ Inv P T n w0 bs l0 s' (a.put o.dst y) w' loc') ?_
    intro y w' locr bc hbc hb
    have hi := hd i hdst
    obtain ⟨hext, hmap, hinv⟩ := after_call h hdist hms (by have := Nat.le_of_ble_eq_true hcount; simp only [lentKey, guardKey]; omega) hbc hb (Nat.lt_of_lt_of_le hi h.small) _ (fun _ _ e => e) h2 h3 hlen
    refine ⟨s.callM i lend res2 ms2 news2, locR loc i (s.c i) (fun j => locr (0, 0, j)), hK, ?_⟩
    rw [hdst]
    exact hinv _ _ (by simp [Act.put, h.size]) h.defers (tmps_put hext h.tmp (by rw [h.size]; exact hi) (hmap _ _ _ h4 hb.rep))
  · rename_i g first caps hf hdst
    obtain ⟨lend, dargs, ms, res, ms', ms2, hcount, hdist, h1, hms, hsat, h2, hlen, hK⟩ := hk
    refine go hf hdist h1 hms hsat (by have := Nat.le_of_ble_eq_true hcount; simp only [lentKey, guardKey]; omega) (fun y w' => ∃ s' loc', K s' ∧ Inv P T n w0 bs l0 s' (a.put o.dst y) w' loc') ?_
    intro y w' locr bc hbc hb
    have hbf : ∀ id id', backL lend id = some id' → backF lend 0 (s.c 0) id = some id' := by
      intro id id' e
      unfold backL at e
      cases hc : Nat.ble lentKey id.1 <;> simp only [hc, cond_true, cond_false] at e
      · cases e
      · unfold backF at e ⊢
        rw [hc] at e ⊢
        exact e
    obtain ⟨hext, hmap, hinv⟩ := after_call h hdist hms (by have := Nat.le_of_ble_eq_true hcount; simp only [lentKey, guardKey]; omega) hbc hb (show 0 < lentKey by decide) _ hbf h2 (news2 := []) rfl hlen
    refine ⟨_, locR loc 0 (s.c 0) (fun j => locr (0, 0, j)), hK, ?_⟩
    rw [hdst]
    have := hinv s.t a h.size h.defers (fun j => Rep.ext hext _ _ (h.tmp j))
    have hnone : ∀ id : Id, id.1 = 0 → id.2.1 = s.c 0 → loc id = none := by
      intro id e1 e2
      cases hl : loc id with
      | none => rfl
      | some l =>
        have := h.cnt id l hl (by rw [e1]; decide)
        rw [e1] at this; omega
    have hnone2 : ∀ j, locr (0, 0, j) = none := by
      intro j
      cases hl : locr (0, 0, j) with
      | none => rfl
      | some l =>
        have := (hb.key _ _ hl (by show 0 < lentKey; decide)).2.2
        simp at this
    have hup : ∀ id c, setL s.m lend ms2 id = some c → updR (setL s.m lend ms2) 0 (s.c 0) (fun j => nth ([] : List D) j) id = some c := by
      intro id c hc
      rw [updR_eq, if_neg]
      · exact hc
      · rintro ⟨e1, e2⟩
        have hl := hnone id e1 e2
        by_cases hm : id ∈ lend
        · obtain ⟨k, hk⟩ := List.mem_iff_getElem?.1 hm
          obtain ⟨y, _, hy⟩ := (mapO_getO hms k).1 _ hk
          unfold lendC at hy
          split at hy
          · rename_i c' hc'
            obtain ⟨l, xs, q, _⟩ := h.mem id c' hc'
            rw [hl] at q; cases q
          · cases hy
        · rw [setL_not hm] at hc
          obtain ⟨l, xs, q, _⟩ := h.mem id c hc
          rw [hl] at q; cases q
    refine ⟨this.types, this.low, h.solo, this.size, this.small, this.defers, this.same, this.tmp, fun id c hc => this.mem id c (hup id c hc), ?_, this.range, fun id c hc => this.live id c (hup id c hc), this.lent,
      fun id id' c c' b k k' hc hc' hl hl' => this.inj id id' c c' b k k' (hup id c hc) (hup id' c' hc') hl hl', this.glob⟩
    intro id l hl hk
    rw [locR_eq] at hl
    split at hl
    · rw [hnone2] at hl; cases hl
    · exact h.cnt id l hl hk
  · exact hk.elim
end
end Go.V
/- The abstract states are sound, ninth part: operations in a row; a region whose order is open. -/
set_option linter.unusedVariables false
set_option linter.unusedSimpArgs false
set_option linter.unusedSectionVars false
namespace Go.V
variable [Globs]

section
variable {P : Program} {T : Types} {n bs : Nat} {w0 w : World} {l0 : Loc} {s : St} {a : Act} {loc : Loc}

theorem run_getMap {r : Nat} {es : Array MapEntry} {cl : Nat} (hb : w.heap[r]? = some (Obj.map es cl)) : (getObj r).run P w = .ok (Obj.map es cl) w := by
  simp [getObj, Sem.run, hb]
theorem run_setMap {r : Nat} {es : Array MapEntry} {cl : Nat} (o : Obj) (hb : w.heap[r]? = some (Obj.map es cl)) : (setObj r o).run P w = .ok () { w with heap := w.heap.setIfInBounds r o } := by
  simp [setObj, Sem.run, hb]
theorem run_find {kt : TypeId} {ty : TypeDesc} (hk : P.underlying kt = some ty)
    (heq : ∀ (w : World) (a b a' b' : Int), ∃ r, (Op.equal kt (.agg ⟨[.int .i8 a, .int .i8 b]⟩) (.agg ⟨[.int .i8 a', .int .i8 b']⟩)).run P w = .ok r w) (a b : Int) (es : List MapEntry) (hes : ∀ e ∈ es, ∃ x y : Int, e.key = .agg ⟨[.int .i8 x, .int .i8 y]⟩) :
    ∃ r, (Instr.findKey kt (.agg ⟨[.int .i8 a, .int .i8 b]⟩) es).run P w = .ok r w := by
  have ask : ∀ (es : List MapEntry) (i : Nat), (∀ e ∈ es, ∃ x y : Int, e.key = .agg ⟨[.int .i8 x, .int .i8 y]⟩) → ∃ r, (Instr.findAsking kt (.agg ⟨[.int .i8 a, .int .i8 b]⟩) es i).run P w = .ok r w := by
    intro es
    induction es with
    | nil => intro i _; exact ⟨none, by simp [Instr.findAsking]⟩
    | cons e es ih =>
      intro i h
      obtain ⟨x, y, he⟩ := h e (by simp)
      obtain ⟨r, hr⟩ := heq w a b x y
      obtain ⟨r2, hr2⟩ := ih (i + 1) fun e he => h e (by simp [he])
      cases r
      · exact ⟨r2, by simp only [Instr.findAsking, Sem.run_bind, he, hr, Result.andThen_ok]; simpa using hr2⟩
      · exact ⟨some (i, e.val), by simp only [Instr.findAsking, Sem.run_bind, he, hr, Result.andThen_ok]; simp⟩
  simp only [Instr.findKey, Sem.run_bind, run_under hk, Result.andThen_ok]
  cases h : Instr.findNow ty (.agg ⟨[.int .i8 a, .int .i8 b]⟩) es 0 with
  | some r => exact ⟨r, by simp⟩
  | none => simpa using ask es 0 hes
theorem run_stays (old new : Value) : ∃ k' w', (Instr.keyThatStays old new).run P w = .ok k' w' ∧ (k' = old ∨ k' = new) ∧ (w' = w ∨ w' = w.drew) := by
  unfold Instr.keyThatStays
  split
  · exact ⟨new, w, by simp, .inr rfl, .inl rfl⟩
  · by_cases h1 : (Question.extern "map.whichKeyStays" 2).forced = true
    · exact ⟨new, w, by simp [h1], .inr rfl, .inl rfl⟩
    · by_cases h2 : (Question.extern "map.whichKeyStays" 2).cut (w.tape w.drawn (Question.extern "map.whichKeyStays" 2)) = 0
      · exact ⟨new, w.drew, by simp [h1, h2], .inr rfl, .inr rfl⟩
      · exact ⟨old, w.drew, by simp [h1, h2], .inl rfl, .inr rfl⟩
/-- A map of the call's own written. -/
theorem Inv.setMap (h : Inv P T n w0 bs l0 s a w loc) {b : Nat} {es : Array MapEntry} {cl : Nat} (hb : w.heap[b]? = some (Obj.map es cl)) (hge : w0.heap.size ≤ b) (es' : Array MapEntry) (cl' : Nat) (hp : PKeys es') :
    Inv P T n w0 bs l0 s a { w with heap := w.heap.setIfInBounds b (Obj.map es' cl') } loc := by
  have hlt : b < w.heap.size := (Array.getElem?_eq_some_iff.1 hb).1
  have hself : (w.heap.setIfInBounds b (Obj.map es' cl'))[b]? = some (Obj.map es' cl') := by simp [hlt]
  have hoth : ∀ k, k ≠ b → (w.heap.setIfInBounds b (Obj.map es' cl'))[k]? = w.heap[k]? := fun k hk => by simp [Ne.symm hk]
  have hext : Ext bs bs w loc { w with heap := w.heap.setIfInBounds b (Obj.map es' cl') } loc := {
    le := Nat.le_refl _
    keep := fun _ _ h => h
    old := fun k c e fr hk hv => by
      have hne : k ≠ b := by rintro rfl; rw [hb] at hk; cases hk
      exact ⟨by show (w.heap.setIfInBounds b _)[k]? = _; rw [hoth k hne]; exact hk, hv⟩
    own := fun id k n' c e fr hl hk => by
      have hne : k ≠ b := by rintro rfl; rw [hb] at hk; cases hk
      exact ⟨c, e, fr, by show (w.heap.setIfInBounds b _)[k]? = _; rw [hoth k hne]; exact hk, Nat.le_refl _⟩
    maps := fun k es1 cl1 hk hp1 => by
      by_cases hkb : k = b
      · subst hkb; exact ⟨es', cl', hself, hp⟩
      · exact ⟨es1, cl1, by show (w.heap.setIfInBounds b _)[k]? = _; rw [hoth k hkb]; exact hk, hp1⟩ }
  have hsz : (w.heap.setIfInBounds b (Obj.map es' cl')).size = w.heap.size := by simp
  refine ⟨h.types, h.low, h.solo, h.size, h.small, h.defers, ?_, fun i => Rep.ext hext _ _ (h.tmp i), ?_, h.cnt, ?_, h.live, h.lent, h.inj, h.glob.ext hext⟩
  · refine ⟨h.same.os, h.same.tape, h.same.output, by show _ ≤ (w.heap.setIfInBounds b _).size; rw [hsz]; exact h.same.size, ?_, ?_, ?_⟩
    · intro k hk hc
      show (w.heap.setIfInBounds b _)[k]? = _
      rw [hoth k (by omega)]
      exact h.same.block k hk hc
    · intro k c e fr hk
      obtain ⟨c', e', fr', g1, g2⟩ := h.same.grow k c e fr hk
      have hne : k ≠ b := by rintro rfl; rw [hb] at g1; cases g1
      exact ⟨c', e', fr', by show (w.heap.setIfInBounds b _)[k]? = _; rw [hoth k hne]; exact g1, g2⟩
    · intro k es1 cl1 hk
      have hk0 : k < w0.heap.size := (Array.getElem?_eq_some_iff.1 hk).1
      show (w.heap.setIfInBounds b _)[k]? = _
      rw [hoth k (by omega)]
      exact h.same.maps k es1 cl1 hk
  · intro id c hc
    obtain ⟨l, xs, g1, g2, g3⟩ := h.mem id c hc
    refine ⟨l, xs, g1, Rep.ext hext _ _ g2, ?_⟩
    cases l with
    | none => exact g3
    | some k =>
      obtain ⟨kk, e, r1, r2⟩ := g3
      have hne : k ≠ b := by rintro rfl; rw [hb] at r1; cases r1
      exact ⟨kk, e, by show (w.heap.setIfInBounds b _)[k]? = _; rw [hoth k hne]; exact r1, r2⟩
  · intro id k n' hl
    obtain ⟨g1, g2⟩ := h.range _ _ _ hl
    exact ⟨g1, by show k < (w.heap.setIfInBounds b _).size; rw [hsz]; exact g2⟩
theorem Inv.drawn (h : Inv P T n w0 bs l0 s a w loc) : Inv P T n w0 bs l0 s a w.drew loc := by
  have hb : RowKit.Below w.heap.size w w.drew := (RowKit.Below.refl _ _).drew
  have hext : Ext bs bs w loc w.drew loc := ext_below hb fun id b k he => (h.range id b k he).2
  exact ⟨h.types, h.low, h.solo, h.size, h.small, h.defers, h.same.below hb, fun i => Rep.ext hext _ _ (h.tmp i), fun id c hc => by
    obtain ⟨l, xs, g1, g2, g3⟩ := h.mem id c hc
    exact ⟨l, xs, g1, Rep.ext hext _ _ g2, blk_ext hb g3⟩, h.cnt, fun id b k he => h.range id b k he, h.live, h.lent, h.inj, h.glob.ext hext⟩
/-- A MAP WRITTEN. -/
theorem map_sound {o : Oper} {t : TypeId} {m k x : Operand} {K : St → Prop} (h : Inv P T n w0 bs l0 s a w loc) (hd : ∀ i, o.dst = some i → i < n) (ho : o.op = .mapUpdate t m k x) (hk : opWp P T o s K) :
    Done P o a w fun y w' => ∃ s' loc', K s' ∧ Inv P T n w0 bs l0 s' (a.put o.dst y) w' loc' := by
  simp only [opWp, ho, effK_eq, eff_junk] at hk
  have hm := h.ev m
  have hkey := h.ev k
  split at hk
  · rename_i ka kb hme hke
    rw [hme] at hm
    rw [hke] at hkey
    simp only [Rep] at hm hkey
    obtain ⟨b, es, cl, hmv, hge, hb, hp⟩ := hm
    obtain ⟨hkv, _⟩ := hkey
    split at hk
    rotate_left
    · exact hk.elim
    rename_i kk0 sz0 by0 z0 hTt
    obtain ⟨⟨kt, et, ty, ht, hkt, hck, heq⟩, hK⟩ := hk
    have hge : w0.heap.size ≤ b := by
      rcases h.low.2.1 with e | e
      · rw [← e]; exact hge
      · exact absurd rfl (e _ _ hTt kk0)
    obtain ⟨r, hr⟩ := run_find (w := w) hkt heq ka kb es.toList hp
    have start : ∀ (w2 : World) (es' : Array MapEntry) (cl' : Nat), PKeys es' → (w2 = w ∨ w2 = w.drew) →
        (Instr.mapUpdate t (a.eval m) (a.eval k) (a.eval x)).run P w = .ok () { w2 with heap := w2.heap.setIfInBounds b (Obj.map es' cl') } →
        Done P o a w fun y w' => ∃ s' loc', K s' ∧ Inv P T n w0 bs l0 s' (a.put o.dst y) w' loc' := by
      intro w2 es' cl' hp' hw2 hrun
      have hi2 : Inv P T n w0 bs l0 s a w2 loc := by
        rcases hw2 with rfl | rfl
        · exact h
        · exact h.drawn
      have hb2 : w2.heap[b]? = some (Obj.map es cl) := by rcases hw2 with rfl | rfl <;> exact hb
      refine .inr (.inl ⟨_, ?_, _, loc, hK, Inv.skip (hi2.setMap hb2 hge es' cl' hp') o.dst hd⟩)
      simp [execOp, ho, hrun]
    cases r with
    | none =>
      refine start w (es.push { key := .agg ⟨[.int .i8 ka, .int .i8 kb]⟩, val := a.eval x, born := cl }) (cl + 1) ?_ (.inl rfl) ?_
      · intro e he
        simp only [Array.toList_push, List.mem_append, List.mem_singleton] at he
        rcases he with he | rfl
        · exact hp e he
        · exact ⟨ka, kb, rfl⟩
      · simp only [Instr.mapUpdate, Sem.run_bind, run_under ht, Result.andThen_ok, hmv, hkv, run_getMap hb, hck, hr, run_setMap _ hb]
    | some q =>
      obtain ⟨i, v0⟩ := q
      obtain ⟨k', w', g1, g2, g3⟩ := run_stays (P := P) (w := w) (((es[i]?).map (·.key)).getD (.agg ⟨[.int .i8 ka, .int .i8 kb]⟩)) (.agg ⟨[.int .i8 ka, .int .i8 kb]⟩)
      have hk' : ∃ x y : Int, k' = .agg ⟨[.int .i8 x, .int .i8 y]⟩ := by
        rcases g2 with rfl | rfl
        · cases he : es[i]? with
          | none => exact ⟨ka, kb, rfl⟩
          | some e =>
            have hmem : e ∈ es.toList := by
              have := Array.mem_of_getElem? he
              simpa using this
            obtain ⟨x, y, hxy⟩ := hp e hmem
            exact ⟨x, y, hxy⟩
        · exact ⟨ka, kb, rfl⟩
      have hb' : w'.heap[b]? = some (Obj.map es cl) := by rcases g3 with rfl | rfl <;> exact hb
      refine start w' (es.modify i fun e => { e with key := k', val := a.eval x }) cl ?_ g3 ?_
      · intro e he
        obtain ⟨j, hj⟩ := List.getElem?_of_mem he
        rw [Array.getElem?_toList, Array.getElem?_modify] at hj
        split at hj
        · cases he2 : es[j]? with
          | none => rw [he2] at hj; simp at hj
          | some e2 =>
            rw [he2] at hj
            simp only [Option.map_some, Option.some.injEq] at hj
            subst hj
            exact hk'
        · have : e ∈ es.toList := by
            have := Array.mem_of_getElem? hj
            simpa using this
          exact hp e this
      · simp only [Instr.mapUpdate, Sem.run_bind, run_under ht, Result.andThen_ok, hmv, hkv, run_getMap hb, hck, hr, g1, run_setMap _ hb']
  · exact hk.elim
/-- A SLICE CLEARED. -/
theorem clear_sound {o : Oper} {args : Array Operand} {ts : Array TypeId} {x : Operand} {t : TypeId} {K : St → Prop} (h : Inv P T n w0 bs l0 s a w loc) (hd : ∀ i, o.dst = some i → i < n)
    (ho : o.op = .call { callee := .builtin .clear, args, argTypes := ts }) (hargs : args.toList = [x]) (hts : ts.toList = [t]) (hk : clearK T s t (s.ev x) fun s' => K (s'.eff o.dst (.val (.tup [])))) :
    Done P o a w fun y w' => ∃ s' loc', K s' ∧ Inv P T n w0 bs l0 s' (a.put o.dst y) w' loc' := by
  unfold clearK at hk
  split at hk
  · rename_i e sz' bs zr f sz id off len hti hx
    split at hk
    · rename_i ti c hte hc
      rw [asrt_iff] at hk
      obtain ⟨hsz, hpos, hput⟩ := hk
      have hsz : sz = ti.size := by simpa using hsz
      subst hsz
      have hv := h.ev x
      rw [hx] at hv
      simp only [Rep] at hv
      obtain ⟨aa, cap, l, n0, hy, _, hl, _, _, hm⟩ := hv
      obtain ⟨l1, xs, g1, g2, g3⟩ := h.mem id c hc
      rw [hl] at g1
      simp only [Option.some.injEq, Prod.mk.injEq] at g1
      obtain ⟨rfl, rfl⟩ := g1
      cases l with
      | none => simp only at hm; omega
      | some b =>
        obtain ⟨o1, ha, ho1, _⟩ := hm
        have ho1 := ho1 (by omega)
        subst ho1
        obtain ⟨k, e0, hkk, hk1, hk2⟩ := g3
        have hte' := h.types e ti hte
        have hone : ti.zero.cells.toList.all Value.oneCell' = true := by
          have := hte'.flat
          cases hz : ti.zero with
          | agg arr => rw [hz] at this; simpa [Flat, Value.cells] using this
          | tuple arr => rw [hz] at this; simp [Flat] at this
          | _ => simp [Value.cells, Value.oneCell']
        have hall := all_rep len hone
        obtain ⟨c', us, q1, q2, q3, q4, q5⟩ := putK_sound (y := .agg ⟨rep len ti.zero.cells.toList⟩) hput g2 (by simp only [Rep, Flat, true_and]; exact hall)
        have hus : us = rep len ti.zero.cells.toList := by
          have : (⟨rep len ti.zero.cells.toList⟩ : Array Value) = ⟨us⟩ := q2
          injection this with this
          exact this.symm
        have hrun := run_storeCells_at P b o1 e0 us 0 k w hkk (by simp; omega) (by simpa [List.all_eq_true] using q3)
        have hks : (⟨k.toList.take (o1 + 0) ++ us ++ k.toList.drop (o1 + 0 + us.length)⟩ : Array Value) = ⟨splice k.toList o1 us⟩ := rfl
        have hu := (h.types t _ hti).und
        simp only [UOk] at hu
        have hts' : ts[0]? = some t := by rw [← Array.getElem?_toList, hts]; rfl
        have hav : (args.map a.eval)[0]? = some (a.eval x) := by rw [← Array.getElem?_toList, Array.toList_map, hargs]; rfl
        obtain ⟨len', rfl⟩ : ∃ m, len = m + 1 := ⟨len - 1, by omega⟩
        rw [eff_junk] at q1
        refine .inl ⟨.tuple #[], w.setRow b ⟨splice k.toList o1 us⟩, ?_, _, loc, q1, Inv.skip (h.write hc hl hkk hk1 hk2 q4 q5) o.dst hd⟩
        have hz := run_zero (w := w) h.types hte
        have hcells : (Builtin.zeroCells ti.zero.cells (len' + 1)).toList = us := by
          rw [hus]; exact zeros_rep _ _
        rw [← hks]
        simp [execOp, ho, resolve, invoke, builtin, Builtin.clear_, hts', hav, hy, ha, run_under hu, hz, hcells, hrun]
    · exact hk.elim
  · exact hk.elim
theorem op_sound {o : Oper} {K : St → Prop} (h : Inv P T n w0 bs l0 s a w loc) (hd : ∀ i, o.dst = some i → i < n) (hk : opWp P T o s K) :
    Done P o a w fun y w' => ∃ s' loc', K s' ∧ Inv P T n w0 bs l0 s' (a.put o.dst y) w' loc' := by
  have quiet : quietK P T o s (fun e => K (s.eff o.dst e)) → Done P o a w fun y w' => ∃ s' loc', K s' ∧ Inv P T n w0 bs l0 s' (a.put o.dst y) w' loc' := by
    intro hq
    have hg := quiet_sound h.ctx (fun i hi => Nat.lt_of_lt_of_le (hd i hi) h.small) hq
    have conv : ∀ y w', (∃ e, K (s.eff o.dst e) ∧ EffRel bs s.c o.dst w loc w' y e) → ∃ s' loc', K s' ∧ Inv P T n w0 bs l0 s' (a.put o.dst y) w' loc' := by
      rintro y w' ⟨e, h1, h2⟩
      obtain ⟨loc', h3⟩ := h.eff h2 hd
      exact ⟨_, loc', h1, h3⟩
    rcases hg with ⟨y, w', h1, h2⟩ | ⟨w', h1, h2⟩ | ⟨f, args, w', h1, h2⟩
    · exact .inl ⟨y, w', h1, conv _ _ h2⟩
    · exact .inr (.inl ⟨w', h1, conv _ _ h2⟩)
    · refine .inr (.inr ⟨f, args, w', h1, h2.mono ?_⟩)
      rintro e w'' ⟨y, rfl, h3⟩
      exact ⟨y, rfl, conv _ _ h3⟩
  have hk' := hk
  unfold opWp at hk
  split at hk
  · rename_i t p x ho; exact store_sound h hd ho hk'
  · rename_i t m k x ho; exact map_sound h hd ho hk'
  · rename_i args ts ho; exact append_sound h hd ho hk'
  · rename_i args ts ho
    split at hk
    · rename_i x t hx ht
      exact clear_sound h hd ho hx ht (by simpa only [effK_eq] using hk)
    · exact hk.elim
  · rename_i g args ts ho
    have calm : callK P s (.fn (.func g) [] []) (args.toList.map s.ev) o.dst (fun e => effK s o.dst e K) → quietK P T o s fun e => K (s.eff o.dst e) := by
      intro hk
      unfold quietK
      rw [ho]
      have e : s.ev (.func g) = .fn (.func g) [] [] := rfl
      simpa only [effK_eq, e] using hk
    cases hb : isBoth g <;> simp only [hb, cond_true, cond_false] at hk
    · cases hm : isMut g <;> simp only [hm, cond_true, cond_false] at hk
      · exact quiet (calm hk)
      · exact callM_sound h hd ho hk
    · rcases hk with hk | hk
      · exact quiet (calm hk)
      · exact callM_sound h hd ho hk
  · rename_i f args ts _ ho
    rcases hk with hk | hk
    · refine quiet ?_
      unfold quietK
      rw [ho]
      simpa only [effK_eq] using hk
    · exact callM_sound h hd ho hk
  · exact quiet (by simpa only [effK_eq] using hk)

theorem undef_no_bool (b : Bool) : undef ≠ .bool b := by
  unfold undef; simp

/-- A guard, as the abstract state has it. -/
theorem guard_yes {ops : Array Oper} {o : Oper} {yes no : Prop} (ht : ∀ i, Rep w bs loc (s.t i) (a.tmps.getD i undef)) (h : guardK ops o s yes no) :
    (Region.wanted o (yielded ops a.tmps) = true ∧ yes) ∨ (Region.wanted o (yielded ops a.tmps) = false ∧ no) := by
  unfold guardK at h
  cases hg : o.guard with
  | none =>
    have : guardOf ops o = none := by simp [guardOf, hg]
    rw [this] at h
    exact .inl ⟨by simp [Region.wanted, hg], h⟩
  | some jw =>
    obtain ⟨j, want⟩ := jw
    have hgo : guardOf ops o = some ((ops[j]?).bind (·.dst), want) := by simp [guardOf, hg]
    rw [hgo] at h
    cases hq : (ops[j]?).bind (·.dst) with
    | none => rw [hq] at h; exact h.elim
    | some g =>
      rw [hq] at h
      simp only at h
      split at h
      · rename_i b hb
        have hr := ht g
        rw [hb] at hr
        simp only [Rep] at hr
        have hy : yielded ops a.tmps j = some b := by
          have hv := hr.1
          rw [Array.getD_eq_getD_getElem?] at hv
          cases hgt : a.tmps[g]? with
          | none => rw [hgt] at hv; exact absurd hv (undef_no_bool b)
          | some y =>
            rw [hgt] at hv
            simp only [Option.getD_some] at hv
            subst hv
            simp [yielded, hq, hgt]
        cases b <;> cases want <;> simp only at h <;> first
          | exact .inl ⟨by simp [Region.wanted, hg, hy], h⟩
          | exact .inr ⟨by simp [Region.wanted, hg, hy], h⟩
      · rename_i hb
        have hr := ht g
        rw [hb] at hr
        simp only [Rep, RepL] at hr
        obtain ⟨vs, hv, rfl⟩ := hr
        have hy : yielded ops a.tmps j = none := by
          rw [Array.getD_eq_getD_getElem?] at hv
          cases hgt : a.tmps[g]? with
          | none => simp [yielded, hq, hgt]
          | some y =>
            rw [hgt] at hv
            simp only [Option.getD_some] at hv
            subst hv
            simp [yielded, hq, hgt]
        exact .inr ⟨by simp [Region.wanted, hg, hy], h⟩
      · exact h.elim

theorem dst_lt {ops : Array Oper} (hd : dstOk n ops = true) {j : Nat} {o : Oper} (ho : ops[j]? = some o) : ∀ i, o.dst = some i → i < n := by
  intro i hi
  have hm : o ∈ ops.toList := by simpa using Array.mem_of_getElem? ho
  have := (List.all_eq_true.1 hd) o hm
  rw [hi] at this
  simpa using this

theorem ops_sound {ops : Array Oper} (hd : dstOk n ops = true) {K : St → Prop} {Q : Exit → Act → World → Prop}
    (hQ : ∀ s' a' w' loc', K s' → Inv P T n w0 bs l0 s' a' w' loc' → Q .normal a' w') :
    ∀ (m j : Nat) (s : St) (a : Act) (w : World) (loc : Loc), j + m = ops.size → opsWp P T ops (ops.toList.drop j) K s → Inv P T n w0 bs l0 s a w loc → wpOps P ops Q (List.range' j m) a w := by
  intro m
  induction m with
  | zero =>
    intro j s a w loc hj hk h
    have : ops.toList.drop j = [] := List.drop_eq_nil_of_le (by simp; omega)
    rw [this] at hk
    exact hQ _ _ _ _ hk h
  | succ m ih =>
    intro j s a w loc hj hk h
    have hlt : j < ops.size := by omega
    have ho : ops[j]? = some ops[j] := by simp [hlt]
    have hdrop : ops.toList.drop j = ops[j] :: ops.toList.drop (j + 1) := by
      rw [List.drop_eq_getElem_cons (by simpa using hlt)]
      simp
    rw [hdrop] at hk
    simp only [opsWp, effK_eq, eff_junk] at hk
    simp only [List.range'_succ, wpOps, ho]
    rcases guard_yes h.tmp hk with ⟨hw, hk⟩ | ⟨hw, hk⟩
    · rw [if_pos hw]
      left
      refine Done.wp (op_sound h (dst_lt hd ho) hk) ?_
      rintro y w' ⟨s', loc', h1, h2⟩
      exact ih (j + 1) s' _ w' loc' (by omega) h1 h2
    · rw [if_neg (by simp [hw])]
      exact ih (j + 1) _ _ w loc (by omega) hk (h.skip _ (dst_lt hd ho))

/-! ### A region whose order is open -/

theorem ev_congr {s s' : St} {x : Operand} (h : ∀ t, x = .tmp t → s.t t = s'.t t) : s.ev x = s'.ev x := by
  cases x with
  | tmp t => exact h t rfl
  | const v => cases v <;> rfl
  | _ => rfl

theorem map_ev_congr {s s' : St} {l : List Operand} (h : ∀ x ∈ l, s.ev x = s'.ev x) : l.map s.ev = l.map s'.ev := List.map_congr_left h

theorem contOf_congr {s s' : St} (h : s.m = s'.m) (x : D) : contOf s x = contOf s' x := by
  cases x <;> simp only [contOf, h]
theorem optI_congr {s s' : St} {o : Option Operand} (h : ∀ x, o = some x → s.ev x = s'.ev x) : optI s o = optI s' o := by
  cases o with
  | none => rfl
  | some x => simp only [optI, h x rfl]

theorem quietK_congr {s s' : St} {o : Oper} {K : Eff → Prop} (hev : ∀ x ∈ o.op.operands.toList, s.ev x = s'.ev x) (hm : s.m = s'.m) (hc : ∀ i, o.dst = some i → s.c i = s'.c i) (h : quietK P T o s K) : quietK P T o s' K := by
  have hnew : ∀ (dm : Id → D) (c : D), newK s o.dst dm c K → newK s' o.dst dm c K := by
    intro dm c h
    unfold newK at h ⊢
    cases hd : o.dst with
    | none => rw [hd] at h; exact h
    | some i => rw [hd] at h; simp only at h ⊢; rw [← hc i hd]; exact h
  cases hop : o.op <;> rw [hop] at hev <;> simp only [quietK, hop] at h ⊢
  case move x => rw [← hev x (by simp [Op.operands])]; exact h
  case assign x => rw [← hev x (by simp [Op.operands])]; exact h
  case pick c x y =>
    rw [← hev c (by simp [Op.operands]), ← hev x (by simp [Op.operands]), ← hev y (by simp [Op.operands])]; exact h
  case alloc t => split at h <;> first | exact hnew _ _ h | exact h.elim
  case box t x =>
    rw [← hev x (by simp [Op.operands])]
    rw [force_eq] at h ⊢
    cases hx : s.ev x <;> rw [hx] at h <;> first | exact h.elim | exact hnew _ _ h
  case build t parts =>
    have hp : evParts s parts = evParts s' parts := by
      unfold evParts
      apply List.map_congr_left
      intro p hp
      rw [hev p.2 (by simp [Op.operands]; exact ⟨p.1, by simpa using hp⟩)]
    rw [← hp]; exact h
  case buildSlice t len parts =>
    have hp : evParts s parts = evParts s' parts := by
      unfold evParts
      apply List.map_congr_left
      intro p hp
      rw [hev p.2 (by simp [Op.operands]; exact ⟨p.1, by simpa using hp⟩)]
    rw [← hp]
    split at h
    · split at h
      · split at h
        · split at h
          · rw [asrt_iff] at h ⊢; exact ⟨h.1, hnew _ _ h.2⟩
          · exact h.elim
        · exact h.elim
      · exact h.elim
    · exact h.elim
  case load t x => rw [← hev x (by simp [Op.operands]), ← hm]; exact h
  case binOp op t x y t' => rw [← hev x (by simp [Op.operands]), ← hev y (by simp [Op.operands])]; exact h
  case unOp op t x => rw [← hev x (by simp [Op.operands])]; exact h
  case convert t u x =>
    rw [← hev x (by simp [Op.operands])]
    unfold convK at h ⊢
    simp only [← contOf_congr hm]
    exact h
  case makeMap t r =>
    cases r with
    | none => exact h
    | some x => exact h.elim
  case makeFunc fn first caps =>
    rw [← map_ev_congr (l := first.toList) (fun x hx => hev x (by simp [Op.operands]; left; simpa using hx)), ← map_ev_congr (l := caps.toList) (fun x hx => hev x (by simp [Op.operands]; right; simpa using hx))]
    exact h
  case makeSlice t x y =>
    rw [← hev x (by simp [Op.operands]), ← hev y (by simp [Op.operands])]
    split at h
    · split at h
      · rw [asrt_iff] at h ⊢
        exact ⟨h.1, h.2.1, hnew _ _ h.2.2⟩
      · exact h.elim
    · exact h.elim
  case slice t x lo hi mx =>
    rw [← hev x (by simp [Op.operands])]
    unfold sliceK at h ⊢
    rw [← optI_congr (s := s) (s' := s') (o := lo) (fun z hz => hev z (by simp [Op.operands, hz])), ← optI_congr (s := s) (s' := s') (o := hi) (fun z hz => hev z (by simp [Op.operands, hz])), ← hm]
    exact h
  case fieldAddr t x f => rw [← hev x (by simp [Op.operands])]; exact h
  case field t x f => rw [← hev x (by simp [Op.operands])]; exact h
  case indexAddr t x i => rw [← hev x (by simp [Op.operands]), ← hev i (by simp [Op.operands])]; exact h
  case index t x i => rw [← hev x (by simp [Op.operands]), ← hev i (by simp [Op.operands])]; exact h
  case extract x i => rw [← hev x (by simp [Op.operands])]; exact h
  case nilCheck x => rw [← hev x (by simp [Op.operands])]; exact h
  case call c =>
    obtain ⟨callee, args, ts⟩ := c
    have hargs : ∀ x ∈ args.toList, s.ev x = s'.ev x := fun x hx => hev x (by simp [Op.operands, Call.operands]; right; simpa using hx)
    cases callee with
    | builtin b => simp only at h ⊢; rw [← map_ev_congr hargs]; exact h
    | value f =>
      simp only at h ⊢
      rw [← map_ev_congr hargs, ← hev f (by simp [Op.operands, Call.operands])]
      unfold callK at h ⊢
      split at h
      · rename_i g first caps hf
        obtain ⟨dargs, res, h1, h2, h3⟩ := h
        refine ⟨dargs, res, by rw [← hm]; exact h1, h2, ?_⟩
        cases hd : o.dst with
        | none => rw [hd] at h3; exact h3
        | some i => rw [hd] at h3; simp only at h3 ⊢; rw [← hc i hd]; exact h3
      · exact h.elim
    | invoke r m => exact h

/-- What a quiet operation leaves can be named. -/
theorem quietK_pick {s : St} {o : Oper} {K : Eff → Prop} (h : quietK P T o s K) : ∃ e, K e ∧ quietK P T o s (fun e' => e' = e) := by
  have hnew : ∀ (dm : Id → D) (c : D), newK s o.dst dm c K → ∃ e, K e ∧ newK s o.dst dm c (fun e' => e' = e) := by
    intro dm c h
    unfold newK at h
    cases hd : o.dst with
    | none => rw [hd] at h; exact h.elim
    | some i => rw [hd] at h; exact ⟨_, h, by simp [newK]⟩
  have hforce : ∀ (d : D) (F : D → Eff), force d (fun d => K (F d)) → ∃ e, K e ∧ force d (fun d => F d = e) := by
    intro d F h
    rw [force_eq] at h
    exact ⟨_, h, by rw [force_eq]⟩
  have hget : ∀ (c : D) (off : Nat) (F : D → Eff), getK c off (fun d => K (F d)) → ∃ e, K e ∧ getK c off (fun d => F d = e) := by
    intro c off F h
    unfold getK at h ⊢
    split at h
    · rw [optK_iff] at h
      obtain ⟨x, hx, h⟩ := h
      exact ⟨_, h, optK_of hx rfl⟩
    · rw [optK_iff] at h
      obtain ⟨x, hx, h⟩ := h
      obtain ⟨e, h1, h2⟩ := hforce _ _ h
      exact ⟨e, h1, optK_of hx h2⟩
    · exact h.elim
  have hsub : ∀ (c : D) (off m : Nat) (F : D → Eff), subK c off m (fun d => K (F d)) → ∃ e, K e ∧ subK c off m (fun d => F d = e) := by
    intro c off m F h
    unfold subK at h ⊢
    split at h
    · exact ⟨_, h.2, h.1, rfl⟩
    · exact ⟨_, h.2, h.1, rfl⟩
    · exact h.elim
  have hload : ∀ (t : TypeId) (c : D) (off : Nat) (F : D → Eff), loadK T t c off (fun d => K (F d)) → ∃ e, K e ∧ loadK T t c off (fun d => F d = e) := by
    intro t c off F h
    unfold loadK at h ⊢
    split at h
    · split at h
      · exact hsub _ _ _ _ h
      · exact hget _ _ _ h
    · exact h.elim
  cases hop : o.op <;> simp only [quietK, hop] at h ⊢
  case move x => exact hforce _ _ h
  case assign x => exact hforce _ _ h
  case pick c x y =>
    split at h
    · split at h
      · exact hforce _ _ h
      · exact hforce _ _ h
    · exact h.elim
  case alloc t => split at h <;> first | exact hnew _ _ h | exact h.elim
  case box t x =>
    simp only [force_eq] at h ⊢
    cases hx : s.ev x <;> rw [hx] at h <;> first | exact h.elim | exact hnew _ _ h
  case build t parts =>
    split at h
    · split at h
      · split at h
        · split at h
          · exact ⟨_, h, rfl⟩
          · exact h.elim
        · exact h.elim
      · exact h.elim
    · split at h
      · split at h
        · exact ⟨_, h, rfl⟩
        · exact h.elim
      · exact h.elim
    · exact h.elim
  case buildSlice t len parts =>
    split at h
    · split at h
      · split at h
        · split at h
          · rw [asrt_iff] at h
            obtain ⟨e, h1, h2⟩ := hnew _ _ h.2
            exact ⟨e, h1, asrt_iff.2 ⟨h.1, h2⟩⟩
          · exact h.elim
        · exact h.elim
      · exact h.elim
    · exact h.elim
  case load t x =>
    split at h
    · split at h
      · exact hload _ _ _ _ h
      · exact h.elim
    · exact hload _ _ _ _ h
    · exact h.elim
  case binOp op t x y t' =>
    unfold binK at h ⊢
    split at h
    · split at h
      · exact ⟨_, h.2, h.1, rfl⟩
      · exact ⟨_, h.2, h.1, rfl⟩
      · simp only [asrt_iff] at h ⊢
        obtain ⟨h0, h⟩ := h
        split at h
        · exact ⟨_, h, h0, rfl⟩
        · exact ⟨_, h, h0, rfl⟩
        · exact ⟨_, h, h0, rfl⟩
        · exact ⟨_, h.2, h0, h.1, rfl⟩
        · exact ⟨_, h.2, h0, h.1, rfl⟩
        · exact ⟨_, h, h0, rfl⟩
        · exact ⟨_, h, h0, rfl⟩
        · exact ⟨_, h, h0, rfl⟩
        · exact ⟨_, h, h0, rfl⟩
        · split at h
          · exact ⟨_, h, h0, rfl⟩
          · exact h.elim
    · split at h
      · exact ⟨_, h.2, h.1, rfl⟩
      · split at h
        · exact ⟨_, h, rfl⟩
        · exact h.elim
    · split at h
      · obtain ⟨r, h1, h2⟩ := h; exact ⟨_, h2, r, h1, rfl⟩
      · obtain ⟨r, h1, h2⟩ := h; exact ⟨_, h2, r, h1, rfl⟩
      · exact h.elim
    · split at h
      · obtain ⟨xs, ys, r, h1, h2, h3, h4⟩ := h; exact ⟨_, h4, xs, ys, r, h1, h2, h3, rfl⟩
      · obtain ⟨xs, ys, r, h1, h2, h3, h4⟩ := h; exact ⟨_, h4, xs, ys, r, h1, h2, h3, rfl⟩
      · exact h.elim
    · split at h
      · exact ⟨_, h, rfl⟩
      · exact ⟨_, h, rfl⟩
      · exact h.elim
    · split at h
      · exact ⟨_, h, rfl⟩
      · exact h.elim
    · split at h
      · exact ⟨_, h.2, h.1, rfl⟩
      · exact h.elim
    · exact h.elim
  case unOp op t x =>
    unfold unK at h ⊢
    split at h <;> first | exact ⟨_, h, rfl⟩ | exact h.elim
  case convert t u x =>
    unfold convK at h ⊢
    split at h
    · exact ⟨_, h, rfl⟩
    · exact ⟨_, h, rfl⟩
    · exact ⟨_, h, rfl⟩
    · split at h
      · exact ⟨_, h, rfl⟩
      · exact h.elim
    · split at h
      · obtain ⟨b, h1, h2⟩ := h; exact ⟨_, h2, b, h1, rfl⟩
      · exact h.elim
    · exact h.elim
  case makeMap t r =>
    cases r with
    | none => exact ⟨_, h, rfl⟩
    | some x => exact h.elim
  case makeFunc fn first caps => exact ⟨_, h, rfl⟩
  case makeSlice t x y =>
    split at h
    · split at h
      · rw [asrt_iff] at h
        obtain ⟨e, g1, g2⟩ := hnew _ _ h.2.2
        exact ⟨e, g1, asrt_iff.2 ⟨h.1, h.2.1, g2⟩⟩
      · exact h.elim
    · exact h.elim
  case slice t x lo hi mx =>
    unfold sliceK at h ⊢
    split at h
    · exact ⟨_, h.2, h.1, rfl⟩
    · split at h
      · rw [asrt_iff] at h
        exact ⟨_, h.2.2, asrt_iff.2 ⟨h.1, h.2.1, rfl⟩⟩
      · exact h.elim
    · split at h
      · rw [asrt_iff] at h
        obtain ⟨e, g1, g2⟩ := hsub _ _ _ _ h.2.2
        exact ⟨e, g1, asrt_iff.2 ⟨h.1, h.2.1, g2⟩⟩
      · exact h.elim
    · split at h
      · exact ⟨_, h.2, h.1, rfl⟩
      · exact h.elim
    · split at h
      · obtain ⟨e, g1, g2⟩ := hsub _ _ _ _ h.2
        exact ⟨e, g1, h.1, g2⟩
      · exact h.elim
    · exact h.elim
  case fieldAddr t x f =>
    unfold fieldAddrK at h ⊢
    split at h
    · split at h
      · split at h
        · split at h
          · exact h.elim
          · split at h <;> first | exact ⟨_, h, rfl⟩ | exact h.elim
        · exact h.elim
      · exact h.elim
    · exact h.elim
  case field t x f =>
    unfold fieldK partK at h ⊢
    split at h
    · split at h
      · split at h
        · rcases h with h | h
          · obtain ⟨e, h1, h2⟩ := hload _ _ _ _ h
            exact ⟨e, h1, .inl h2⟩
          · unfold flatK at h ⊢
            split at h
            · obtain ⟨l, h1, h2⟩ := h
              exact ⟨_, h2, .inr ⟨l, h1, rfl⟩⟩
            · exact h.elim
        · exact hload _ _ _ _ h
      · exact h.elim
    · exact h.elim
  case indexAddr t x i =>
    unfold indexAddrK at h ⊢
    split at h
    · split at h
      · split at h
        · obtain ⟨h0, h⟩ := h
          split at h <;> first | exact ⟨_, h, h0, rfl⟩ | exact h.elim
        · exact h.elim
      · split at h
        · split at h
          · rw [asrt_iff] at h; exact ⟨_, h.2.2, asrt_iff.2 ⟨h.1, h.2.1, rfl⟩⟩
          · rw [asrt_iff] at h; exact ⟨_, h.2.2, asrt_iff.2 ⟨h.1, h.2.1, rfl⟩⟩
          · exact h.elim
        · exact h.elim
      · exact h.elim
    · exact h.elim
  case index t x i =>
    unfold indexK partK at h ⊢
    split at h
    · split at h
      · split at h
        · obtain ⟨e, g1, g2⟩ := hload _ _ _ _ h.2
          exact ⟨e, g1, h.1, g2⟩
        · exact h.elim
      · split at h
        · exact ⟨_, h.2, h.1, rfl⟩
        · exact h.elim
      · exact h.elim
    · exact h.elim
  case extract x i =>
    split at h
    · split at h
      · exact hforce _ _ h
      · exact h.elim
    · exact h.elim
  case nilCheck x => split at h <;> first | exact ⟨_, h, rfl⟩ | exact h.elim
  case call c =>
    obtain ⟨callee, args, ts⟩ := c
    cases callee with
    | builtin b =>
      simp only at h ⊢
      unfold builtinK at h ⊢
      split at h
      · split at h
        · exact ⟨_, h, rfl⟩
        · exact ⟨_, h, rfl⟩
        · split at h
          · exact ⟨_, h, rfl⟩
          · exact h.elim
        · exact h.elim
      · exact ⟨_, h, rfl⟩
      · exact ⟨_, h, rfl⟩
      · exact h.elim
    | value f =>
      simp only at h ⊢
      unfold callK at h ⊢
      split at h
      · obtain ⟨dargs, res, h1, h2, h3⟩ := h
        cases hd : o.dst with
        | none => rw [hd] at h3; exact ⟨_, h3, dargs, res, h1, h2, rfl⟩
        | some i => rw [hd] at h3; exact ⟨_, h3, dargs, res, h1, h2, rfl⟩
      · exact h.elim
    | invoke r m => exact h.elim

end
end Go.V
