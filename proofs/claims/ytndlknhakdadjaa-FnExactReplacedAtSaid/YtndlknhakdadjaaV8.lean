/- The abstract states are sound, seventh part: the invariant; a store; an append. -/
import Derived.Test.YtndlknhakdadjaaV7
set_option linter.unusedVariables false
set_option linter.unusedSimpArgs false
namespace Go.V

theorem Same.below {ch : Nat → Prop} {w w' w'' : World} (h : Same ch w w') (hb : RowKit.Below w'.heap.size w' w'') : Same ch w w'' where
  os := hb.os.trans h.os
  tape := hb.tape.trans h.tape
  output := hb.output.trans h.output
  size := Nat.le_trans h.size hb.size
  block k hk hc := (hb.block k (Nat.lt_of_lt_of_le hk h.size)).trans (h.block k hk hc)
  grow b k e fr hk := by
    obtain ⟨k', e', fr', h1, h2⟩ := h.grow b k e fr hk
    exact ⟨k', e', fr', by rw [hb.block b (Array.getElem?_eq_some_iff.1 h1).1]; exact h1, h2⟩

theorem Same.setRow {ch : Nat → Prop} {w w' : World} (h : Same ch w w') {b : Nat} (hb : w.heap.size ≤ b ∨ ch b) (cs : Array Value) {k0 : Array Value} {e0 : TypeId} (hk0 : w'.heap[b]? = some (.cells k0 e0 (0, 0))) (hsz : k0.size ≤ cs.size) : Same ch w (w'.setRow b cs) where
  os := h.os
  tape := h.tape
  output := h.output
  size := by rw [setRow_size]; exact h.size
  block k hk hc := by
    have : k ≠ b := by rintro rfl; rcases hb with hb | hb; · omega
                       · exact hc hb
    rw [setRow_other _ _ _ _ this]
    exact h.block k hk hc
  grow b' k e fr hk := by
    obtain ⟨k', e', fr', h1, h2⟩ := h.grow b' k e fr hk
    by_cases hbb : b' = b
    · subst hbb
      rw [hk0] at h1
      cases h1
      exact ⟨cs, e0, (0, 0), setRow_heap _ _ _ _ _ _ hk0, Nat.le_trans h2 hsz⟩
    · exact ⟨k', e', fr', by rw [setRow_other _ _ _ _ hbb]; exact h1, h2⟩

structure Inv (P : Program) (T : Types) (n : Nat) (w0 : World) (l0 : Loc) (s : St) (a : Act) (w : World) (loc : Loc) : Prop where
  types : TOk P T
  size : a.tmps.size = n
  small : n ≤ lentKey
  defers : a.defers = []
  same : Same (chOf l0) w0 w
  tmp : ∀ i, Rep w w0.heap.size loc (s.t i) (a.tmps.getD i undef)
  mem : MemOk w w0.heap.size loc s.m
  cnt : ∀ id l, loc id = some l → id.1 < lentKey → id.2.1 < s.c id.1
  range : ∀ id b k, loc id = some (some b, k) → (id.1 < guardKey → (w0.heap.size ≤ b ∨ chOf l0 b)) ∧ b < w.heap.size
  live : ∀ id c, s.m id = some c → id.1 < guardKey
  lent : ∀ id, lentKey ≤ id.1 → loc id = l0 id
  inj : ∀ id id' c c' b k k', s.m id = some c → s.m id' = some c' → loc id = some (some b, k) → loc id' = some (some b, k') → id = id'

section
variable {P : Program} {T : Types} {n : Nat} {w0 w : World} {l0 : Loc} {s : St} {a : Act} {loc : Loc}

theorem flat_const {x : Value} (h : ∀ a, x ≠ .agg a) (h' : ∀ a, x ≠ .tuple a) : Flat x = true := by
  cases x with
  | agg a => exact absurd rfl (h a)
  | tuple a => exact absurd rfl (h' a)
  | _ => rfl

theorem Inv.ev (h : Inv P T n w0 l0 s a w loc) (x : Operand) : Rep w w0.heap.size loc (s.ev x) (a.eval x) := by
  cases x with
  | tmp i => exact h.tmp i
  | const v =>
    cases v with
    | agg a => simp [St.ev, Rep]
    | tuple a => simp [St.ev, Rep]
    | _ => simp [St.ev, Rep, Act.eval, Flat]
  | global g => simp [St.ev, Rep]
  | func f => simp [St.ev, Rep, RepL, Act.eval]

theorem Inv.ctx (h : Inv P T n w0 l0 s a w loc) : Ctx P T w w0.heap.size loc s a where
  types := h.types
  ev := h.ev
  mem := h.mem
  le := h.same.size
  range id b k he := (h.range id b k he).2
  cnt := h.cnt

theorem getD_put {a : Act} {i : Nat} {y : Value} (j : Nat) : (a.put (some i) y).tmps.getD j undef = if j = i ∧ i < a.tmps.size then y else a.tmps.getD j undef := by
  simp only [Act.put, Array.getD_eq_getD_getElem?, Array.getElem?_setIfInBounds]
  by_cases h : i = j
  · subst h
    by_cases h2 : i < a.tmps.size
    · simp [h2]
    · simp [h2]
  · simp [h, Ne.symm h]

theorem upd_eq {α : Type} (f : Nat → α) (i : Nat) (x : α) (j : Nat) : upd f i x j = if j = i then x else f j := by
  unfold upd
  by_cases h : j = i
  · simp [h]
  · have : (j == i) = false := by simpa using h
    simp [h, this]
theorem updI_eq {α : Type} (f : Id → α) (i : Id) (x : α) (j : Id) : updI f i x j = if j = i then x else f j := by
  unfold updI
  obtain ⟨a, b, c⟩ := i
  obtain ⟨a', b', c'⟩ := j
  by_cases h : (a', b', c') = (a, b, c)
  · simp only [Prod.mk.injEq] at h
    simp [h]
  · rw [if_neg h]
    have : (a' == a && (b' == b && c' == c)) = false := by
      rw [Bool.eq_false_iff]
      intro h'
      simp only [Bool.and_eq_true, beq_iff_eq] at h'
      exact h (by rw [h'.1, h'.2.1, h'.2.2])
    simp [this]
theorem updR_eq (m : Id → Option D) (i c : Nat) (f : Nat → Option D) (id : Id) : updR m i c f id = if id.1 = i ∧ id.2.1 = c then f id.2.2 else m id := by
  unfold updR
  by_cases h : id.1 = i ∧ id.2.1 = c
  · rw [if_pos h]; simp [h.1, h.2]
  · rw [if_neg h]
    have : (id.1 == i && id.2.1 == c) = false := by
      rw [Bool.eq_false_iff]; intro h'
      simp only [Bool.and_eq_true, beq_iff_eq] at h'
      exact h h'
    simp [this]
theorem locR_eq (loc : Loc) (i c : Nat) (g : Nat → Option (Option Nat × Nat)) (id : Id) : locR loc i c g id = if id.1 = i ∧ id.2.1 = c then g id.2.2 else loc id := by
  unfold locR
  by_cases h : id.1 = i ∧ id.2.1 = c
  · rw [if_pos h]; simp [h.1, h.2]
  · rw [if_neg h]
    have : (id.1 == i && id.2.1 == c) = false := by
      rw [Bool.eq_false_iff]; intro h'
      simp only [Bool.and_eq_true, beq_iff_eq] at h'
      exact h h'
    simp [this]

/-- A slot written, all else grown. -/
theorem tmps_put {w' : World} {loc' : Loc} (hext : Ext w0.heap.size w0.heap.size w loc w' loc') (h : ∀ i, Rep w w0.heap.size loc (s.t i) (a.tmps.getD i undef)) {i : Nat} (hi : i < a.tmps.size) {d : D} {y : Value}
    (hd : Rep w' w0.heap.size loc' d y) : ∀ j, Rep w' w0.heap.size loc' (upd s.t i d j) ((a.put (some i) y).tmps.getD j undef) := by
  intro j
  rw [upd_eq, getD_put]
  by_cases hj : j = i
  · simp [hj, hi, hd]
  · simp only [hj, if_false, false_and]
    exact Rep.ext hext _ _ (h j)

theorem blk_ext {w' : World} (hb : RowKit.Below w.heap.size w w') {l : Option Nat} {xs : List Value} (h : BlkAt w l xs) : BlkAt w' l xs := by
  cases l with
  | none => exact h
  | some b =>
    obtain ⟨k, e, h1, h2⟩ := h
    have hlt : b < w.heap.size := (Array.getElem?_eq_some_iff.1 h1).1
    exact ⟨k, e, by rw [hb.block b hlt]; exact h1, h2⟩

/-- WHAT AN OPERATION LEAVES KEEPS THE INVARIANT. -/
theorem Inv.eff {w' : World} {y : Value} {e : Eff} {dst : Option Tmp} (h : Inv P T n w0 l0 s a w loc) (he : EffRel w0.heap.size s.c dst w loc w' y e) (hd : ∀ i, dst = some i → i < n) :
    ∃ loc', Inv P T n w0 l0 (s.eff dst e) (a.put dst y) w' loc' := by
  have hr : ∀ id b k, loc id = some (some b, k) → b < w.heap.size := fun id b k he => (h.range id b k he).2
  cases e with
  | val d =>
    obtain ⟨hb, hrep⟩ := he
    have hext : Ext w0.heap.size w0.heap.size w loc w' loc := ext_below hb hr
    have hmem : MemOk w' w0.heap.size loc s.m := fun id c hc => by
      obtain ⟨l, xs, g1, g2, g3⟩ := h.mem id c hc
      exact ⟨l, xs, g1, Rep.ext hext _ _ g2, blk_ext hb g3⟩
    have hrange : ∀ id b k, loc id = some (some b, k) → (id.1 < guardKey → (w0.heap.size ≤ b ∨ chOf l0 b)) ∧ b < w'.heap.size := fun id b k he => ⟨(h.range id b k he).1, Nat.lt_of_lt_of_le (hr id b k he) hb.size⟩
    cases dst with
    | none => exact ⟨loc, h.types, h.size, h.small, h.defers, h.same.below hb, fun i => Rep.ext hext _ _ (h.tmp i), hmem, h.cnt, hrange, h.live, h.lent, h.inj⟩
    | some i =>
      exact ⟨loc, h.types, by simp [Act.put, h.size], h.small, h.defers, h.same.below hb, tmps_put hext h.tmp (by rw [h.size]; exact hd i rfl) hrep, hmem, h.cnt, hrange, h.live, h.lent, h.inj⟩
  | new d f =>
    obtain ⟨hb, i, g, rfl, hn⟩ := he
    have hi := hd i rfl
    have hfr : ∀ id l, loc id = some l → id.1 = i → id.2.1 < s.c i := fun id l hl hk => by
      have := h.cnt id l hl (by rw [hk]; exact Nat.lt_of_lt_of_le hi h.small)
      rw [hk] at this; exact this
    have hext : Ext w0.heap.size w0.heap.size w loc w' (locR loc i (s.c i) g) := ext_new hb hr hfr hn.range
    refine ⟨locR loc i (s.c i) g, h.types, by simp [Act.put, h.size], h.small, h.defers, h.same.below hb, tmps_put hext h.tmp (by rw [h.size]; exact hi) hn.rep, ?_, ?_, ?_, ?_, ?_, ?_⟩
    · intro id c hc
      simp only [St.eff] at hc
      rw [updR_eq] at hc
      split at hc
      · rename_i hid
        obtain ⟨l, xs, g1, g2, g3⟩ := hn.mem _ _ hc
        exact ⟨l, xs, by rw [locR_eq, if_pos hid]; exact g1, g2, g3⟩
      · rename_i hid
        obtain ⟨l, xs, g1, g2, g3⟩ := h.mem id c hc
        exact ⟨l, xs, hext.keep _ _ g1, Rep.ext hext _ _ g2, blk_ext hb g3⟩
    · intro id l hl hk
      rw [locR_eq] at hl
      simp only [St.eff]
      rw [upd_eq]
      split at hl
      · rename_i hid; rw [if_pos hid.1]; omega
      · have := h.cnt id l hl hk
        split
        · rename_i hid; rw [hid] at this; omega
        · exact this
    · intro id b k hl
      rw [locR_eq] at hl
      split at hl
      · obtain ⟨h1, h2⟩ := hn.range _ _ _ hl
        exact ⟨fun _ => .inl (Nat.le_trans h.same.size h1), h2⟩
      · obtain ⟨h1, h2⟩ := h.range _ _ _ hl
        exact ⟨h1, Nat.lt_of_lt_of_le h2 hb.size⟩
    · intro id c hc
      simp only [St.eff] at hc
      rw [updR_eq] at hc
      split at hc
      · rename_i hid
        rw [hid.1]
        exact Nat.lt_of_lt_of_le hi (Nat.le_trans h.small (by decide))
      · exact h.live id c hc
    · intro id hid
      rw [locR_eq, if_neg]
      · exact h.lent id hid
      · rintro ⟨h1, _⟩
        have := Nat.lt_of_lt_of_le hi h.small
        omega
    · intro id id' c c' b k k' hc hc' hl hl'
      simp only [St.eff] at hc hc'
      rw [updR_eq] at hc hc'
      rw [locR_eq] at hl hl'
      by_cases h1 : id.1 = i ∧ id.2.1 = s.c i <;> by_cases h2 : id'.1 = i ∧ id'.2.1 = s.c i <;> simp only [h1, h2, and_self, if_true, if_false] at hc hc' hl hl'
      · have := hn.inj _ _ _ _ _ hl hl'
        obtain ⟨x, y, z⟩ := id
        obtain ⟨x', y', z'⟩ := id'
        simp only at h1 h2 this
        rw [h1.1, h1.2, h2.1, h2.2, this]
      · have := (hn.range _ _ _ hl).1
        have := (h.range _ _ _ hl').2
        omega
      · have := (hn.range _ _ _ hl').1
        have := (h.range _ _ _ hl).2
        omega
      · exact h.inj _ _ _ _ _ _ _ hc hc' hl hl'

theorem Inv.skip (h : Inv P T n w0 l0 s a w loc) (dst : Option Tmp) (hd : ∀ i, dst = some i → i < n) : Inv P T n w0 l0 (s.put dst (.tup [])) (a.put dst undef) w loc := by
  cases dst with
  | none => exact h
  | some i =>
    have hext : Ext w0.heap.size w0.heap.size w loc w loc := ext_below (RowKit.Below.refl _ _) fun id b k he => (h.range id b k he).2
    exact ⟨h.types, by simp [Act.put, h.size], h.small, h.defers, h.same, tmps_put hext h.tmp (by rw [h.size]; exact hd i rfl) (by simp only [Rep, RepL]; exact ⟨[], rfl, rfl⟩), h.mem, h.cnt, h.range, h.live, h.lent, h.inj⟩

/-- Cells of one block of the call's own written: nothing else has changed. -/
theorem ext_setRow {id0 : Id} {b n0 : Nat} {k : Array Value} {e : TypeId} (hl : loc id0 = some (some b, n0)) (hk : w.heap[b]? = some (.cells k e (0, 0))) (k' : Array Value) (hs : k.size ≤ k'.size) {base : Nat}
    {loc' : Loc} (hkeep : ∀ id l, loc id = some l → loc' id = some l) (hav : ∀ b', b' ≠ b → loc.avoids b' → loc'.avoids b') : Ext base base w loc (w.setRow b k') loc' where
  le := Nat.le_refl _
  keep := hkeep
  old b' kk ee fr h hv := by
    have hne : b' ≠ b := by rintro rfl; exact hv _ _ hl
    exact ⟨by rw [setRow_other _ _ _ _ hne]; exact h, hav b' hne hv⟩
  own id b' nn kk ee fr h hkk := by
    by_cases hb : b' = b
    · subst hb
      rw [hk] at hkk
      cases hkk
      exact ⟨k', e, (0, 0), setRow_heap _ _ _ _ _ _ hk, hs⟩
    · exact ⟨kk, ee, fr, by rw [setRow_other _ _ _ _ hb]; exact hkk, Nat.le_refl _⟩

theorem blk_setRow_other {b : Nat} {k' : Array Value} {l : Option Nat} {xs : List Value} (hne : l ≠ some b) (h : BlkAt w l xs) : BlkAt (w.setRow b k') l xs := by
  cases l with
  | none => exact h
  | some b' =>
    obtain ⟨k, e, h1, h2⟩ := h
    have : b' ≠ b := fun e => hne (by rw [e])
    exact ⟨k, e, by rw [setRow_other _ _ _ _ this]; exact h1, h2⟩

theorem take_splice {k vs : List Value} {off m : Nat} (hm : m ≤ k.length) (h : off + vs.length ≤ m) : (splice k off vs).take m = splice (k.take m) off vs := by
  unfold splice
  apply List.ext_getElem?
  intro i
  simp only [List.getElem?_take, List.getElem?_append, List.length_append, List.length_take, List.getElem?_drop]
  by_cases h1 : i < m <;> simp only [h1, if_true, if_false]
  · have e1 : min off k.length = off := by omega
    have e2 : min off (min m k.length) = off := by omega
    simp only [e1, e2]
    repeat' split
    all_goals first | rfl | (exfalso; omega)
  · have e2 : min off (min m k.length) = off := by omega
    simp only [e2]
    rw [if_neg (by omega)]
    rw [if_neg (by omega)]

theorem putK_sound {base : Nat} {c : D} {off : Nat} {d : D} {K : D → Prop} {xs : List Value} {y : Value} (h : putK c off d K) (hc : Rep w base loc c (.agg ⟨xs⟩)) (hd : Rep w base loc d y) :
    ∃ c' us, K c' ∧ y.cells = ⟨us⟩ ∧ us.all Value.oneCell' = true ∧ off + us.length ≤ xs.length ∧ Rep w base loc c' (.agg ⟨splice xs off us⟩) := by
  have one : ∀ (xs : List Value) (y : Value), off < xs.length → splice xs off [y] = xs.set off y := by
    intro xs y hl
    have := splice_set xs off y [] hl
    rw [← this]
    simp [splice]
  unfold putK at h
  split at h
  · rename_i p q
    simp only [Rep, Value.agg.injEq] at hc hd
    obtain ⟨rfl, hf⟩ := hc
    obtain ⟨rfl, hg⟩ := hd
    refine ⟨_, _, h.2, rfl, hg, h.1, ?_⟩
    simp only [Rep, true_and, Flat]
    exact all_splice off hf hg
  · rename_i p x hx
    simp only [Rep, Value.agg.injEq] at hc hd
    obtain ⟨rfl, hf⟩ := hc
    obtain ⟨rfl, hg⟩ := hd
    obtain ⟨hy, hone⟩ : y.cells = ⟨[y]⟩ ∧ y.oneCell' = true := by
      cases y with
      | agg a => exact absurd rfl (hx a)
      | tuple a => simp [Flat] at hg
      | _ => exact ⟨rfl, rfl⟩
    refine ⟨_, [y], h.2, hy, by simp [hone], h.1, ?_⟩
    rw [one _ _ h.1]
    simp only [Rep, Flat, true_and]
    simp only [Flat, List.all_eq_true] at hf ⊢
    intro z hz
    rcases List.mem_or_eq_of_mem_set hz with hz | hz
    · exact hf z hz
    · rw [hz]; exact hone
  · split at h
    · rename_i cs hcs
      obtain ⟨hr, hone⟩ := hc.asList hcs
      split at h
      · rename_i ds
        simp only [Rep] at hd
        obtain ⟨us, rfl, g1, g2⟩ := hd
        refine ⟨_, us, h.2, rfl, g2, by rw [← hr.length, ← g1.length]; exact h.1, ?_⟩
        rw [Rep]
        exact ⟨_, rfl, hr.splice off g1, all_splice off hone g2⟩
      · rename_i bb _ _
        simp only [Rep] at hd
        obtain ⟨rfl, hg⟩ := hd
        refine ⟨_, bb.toList, h.2, rfl, hg, by rw [← hr.length]; exact h.1, ?_⟩
        rw [Rep]
        exact ⟨_, rfl, hr.splice off (.vals hg), all_splice off hone hg⟩
      · exact h.elim
      · exact h.elim
      · rename_i n1 n2 n3 n4
        obtain ⟨hy, hyone⟩ := scalar_cells hd (fun e => n3 e) (fun ds e => n4 ds e) (fun ds e => n1 ds e) (fun a e => n2 a e)
        refine ⟨_, [y], h.2, hy, by simp [hyone], by rw [← hr.length]; exact h.1, ?_⟩
        rw [one _ _ (by rw [← hr.length]; exact h.1), Rep]
        refine ⟨_, rfl, hr.set off hd, ?_⟩
        simp only [List.all_eq_true] at hone ⊢
        intro z hz
        rcases List.mem_or_eq_of_mem_set hz with hz | hz
        · exact hone z hz
        · rw [hz]; exact hyone
    · exact h.elim

theorem putK_junk {c : D} {off : Nat} {K : D → Prop} (h : putK c off .junk K) : False := by
  cases c with
  | v x => cases x <;> exact h
  | _ => exact h
theorem putK_tup {c : D} {off : Nat} {ds : List D} {K : D → Prop} (h : putK c off (.tup ds) K) : False := by
  cases c with
  | v x => cases x <;> exact h
  | _ => exact h

/-- A STORE. -/
theorem store_sound {o : Oper} {t : TypeId} {p x : Operand} {K : St → Prop} (h : Inv P T n w0 l0 s a w loc) (hd : ∀ i, o.dst = some i → i < n) (ho : o.op = .store t p x) (hk : opWp P T o s K) :
    Done P o a w fun y w' => ∃ s' loc', K s' ∧ Inv P T n w0 l0 s' (a.put o.dst y) w' loc' := by
  simp only [opWp, ho, effK_eq, eff_junk, St.setm] at hk
  have hp := h.ev p
  have hx := h.ev x
  split at hk
  · rename_i id off hpe
    rw [hpe] at hp
    simp only [Rep] at hp
    obtain ⟨b, n0, hl, hpv⟩ := hp
    split at hk
    · rename_i c hc
      rw [force_eq] at hk
      obtain ⟨l, xs, g1, g2, g3⟩ := h.mem id c hc
      rw [hl] at g1
      simp only [Option.some.injEq, Prod.mk.injEq] at g1
      obtain ⟨rfl, rfl⟩ := g1
      obtain ⟨k, e, hkk, hk1, hk2⟩ := g3
      have main : ∀ {i : TI}, T t = some i → (a.eval x).cells.size = i.size → putK c off (s.ev x) (fun c' => K ({ s with m := updI s.m id (some c') }.put o.dst (.tup []))) →
          Done P o a w fun y w' => ∃ s' loc', K s' ∧ Inv P T n w0 l0 s' (a.put o.dst y) w' loc' := by
        intro i hi hsz hput
        obtain ⟨c', us, q1, q2, q3, q4, q5⟩ := putK_sound hput g2 hx
        have hone : ∀ v ∈ us, v.oneCell' = true := by simpa [List.all_eq_true] using q3
        have hrun := run_storeCells_at P b off e us 0 k w hkk (by simp; omega) hone
        have hks : (⟨k.toList.take (off + 0) ++ us ++ k.toList.drop (off + 0 + us.length)⟩ : Array Value) = ⟨splice k.toList off us⟩ := rfl
        have hsize : k.size ≤ (⟨splice k.toList off us⟩ : Array Value).size := by
          simp only [List.size_toArray]
          rw [splice_length _ _ _ (by simp; omega)]; simp
        have hext : Ext w0.heap.size w0.heap.size w loc (w.setRow b ⟨splice k.toList off us⟩) loc := ext_setRow hl hkk _ hsize (fun _ _ h => h) (fun _ _ h => h)
        refine .inr (.inl ⟨w.setRow b ⟨splice k.toList off us⟩, ?_, _, loc, q1, Inv.skip ?_ o.dst hd⟩)
        · have hsize' : (a.eval x).cells.size = i.size := hsz
          rw [← hks]
          have := run_size (w := w) h.types hi
          simp only [execOp, ho, Instr.storeAt, hpv, Instr.sureAddr, storeVar, Sem.run_bind, Sem.run_pure, Result.andThen_ok, this]
          rw [if_neg (by simp [hsize'])]
          rw [show (a.eval x).cells.toList = us by rw [q2], hrun]
          rfl
        · refine ⟨h.types, h.size, h.small, h.defers, h.same.setRow ((h.range _ _ _ hl).1 (h.live _ _ hc)) _ hkk hsize, fun i => Rep.ext hext _ _ (h.tmp i), ?_, h.cnt, fun id' b' k' he => ?_, ?_, h.lent, ?_⟩
          · intro id' c'' hc''
            simp only at hc''
            rw [updI_eq] at hc''
            split at hc''
            · rename_i hid
              subst hid
              simp only [Option.some.injEq] at hc''
              subst hc''
              have hlen : (splice xs off us).length = xs.length := splice_length _ _ _ q4
              refine ⟨some b, splice xs off us, by rw [hlen]; exact hl, Rep.ext hext _ _ q5, _, e, setRow_heap _ _ _ _ _ _ hkk, ?_, ?_⟩
              · rw [hlen]
                simp only
                rw [take_splice (by simpa using hk2) q4, hk1]
              · rw [hlen]; omega
            · rename_i hid
              obtain ⟨l', xs', p1, p2, p3⟩ := h.mem id' c'' hc''
              refine ⟨l', xs', p1, Rep.ext hext _ _ p2, blk_setRow_other ?_ p3⟩
              rintro rfl
              exact hid (h.inj _ _ _ _ _ _ _ hc'' hc p1 hl)
          · obtain ⟨h1, h2⟩ := h.range _ _ _ he
            exact ⟨h1, by rw [setRow_size]; exact h2⟩
          · intro id' c3 h3
            simp only at h3
            rw [updI_eq] at h3
            split at h3
            · rename_i hid; rw [hid]; exact h.live _ _ hc
            · exact h.live _ _ h3
          · intro id' id'' c1 c2 b' k1 k2 hc1 hc2 hl1 hl2
            have live : ∀ i' c3, updI s.m id (some c') i' = some c3 → ∃ c4, s.m i' = some c4 := by
              intro i' c3 h3
              rw [updI_eq] at h3
              split at h3
              · rename_i hid; rw [hid]; exact ⟨c, hc⟩
              · exact ⟨_, h3⟩
            obtain ⟨c3, h3⟩ := live _ _ hc1
            obtain ⟨c4, h4⟩ := live _ _ hc2
            exact h.inj _ _ _ _ _ _ _ h3 h4 hl1 hl2
      have one : ∀ i : TI, T t = some i → (match i.isAgg, s.ev x with
            | true, .v (.agg b) => b.toList.length = i.size ∧ putK c off (s.ev x) (fun c' => K ({ s with m := updI s.m id (some c') }.put o.dst (.tup [])))
            | true, .agg ds => ds.length = i.size ∧ putK c off (s.ev x) (fun c' => K ({ s with m := updI s.m id (some c') }.put o.dst (.tup [])))
            | false, .v (.agg _) => False
            | false, .agg _ => False
            | false, d => asrt (i.size == 1) (putK c off d (fun c' => K ({ s with m := updI s.m id (some c') }.put o.dst (.tup []))))
            | _, _ => False) → Done P o a w fun y w' => ∃ s' loc', K s' ∧ Inv P T n w0 l0 s' (a.put o.dst y) w' loc' := by
        intro i hi hh
        split at hh
        · rename_i q hag hq
          refine main hi ?_ hh.2
          rw [hq] at hx
          simp only [Rep] at hx
          rw [hx.1, ← hh.1]; simp [Value.cells]
        · rename_i ds hag hq
          refine main hi ?_ hh.2
          rw [hq] at hx
          simp only [Rep] at hx
          obtain ⟨vs, hv, hr, _⟩ := hx
          rw [hv, ← hh.1, hr.length]; simp [Value.cells]
        · exact hh.elim
        · exact hh.elim
        · rename_i d1 hag n1 n2
          rw [asrt_iff] at hh
          have hh : i.size = 1 ∧ _ := ⟨by simpa using hh.1, hh.2⟩
          refine main hi ?_ hh.2
          obtain ⟨c1, us, _, q2, _, _⟩ := putK_sound hh.2 g2 hx
          have hnj : s.ev x ≠ .junk := by intro e1; rw [e1] at hh; exact putK_junk hh.2
          have hnt : ∀ ds, s.ev x ≠ .tup ds := by intro ds e1; rw [e1] at hh; exact putK_tup hh.2
          obtain ⟨hy, _⟩ := scalar_cells hx hnj hnt (fun ds e1 => n2 ds e1) (fun aa e1 => n1 aa e1)
          rw [hy, hh.1]; rfl
        · exact hh.elim
      unfold storeK at hk
      split at hk
      · rename_i i hi; exact one i hi hk
      · exact hk.elim
    · exact hk.elim
  · exact hk.elim

end
end Go.V
