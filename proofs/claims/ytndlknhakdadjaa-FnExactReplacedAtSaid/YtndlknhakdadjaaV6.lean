/- The abstract states are sound, fifth part: all operations that write to no cell that was there. -/
import Derived.Test.YtndlknhakdadjaaV5
set_option linter.unusedVariables false
set_option linter.unusedSimpArgs false
namespace Go.V

structure Ctx (P : Program) (T : Types) (w : World) (base : Nat) (loc : Loc) (s : St) (a : Act) : Prop where
  types : TOk P T
  ev : ∀ x, Rep w base loc (s.ev x) (a.eval x)
  mem : MemOk w base loc s.m
  le : base ≤ w.heap.size
  range : ∀ id b n, loc id = some (some b, n) → b < w.heap.size
  cnt : ∀ id l, loc id = some l → id.1 < lentKey → id.2.1 < s.c id.1

mutual
theorem Rep.clean {base' base : Nat} {w w' : World} {loc loc' : Loc} (hle : base' ≤ base)
    (hold : ∀ b k e fr, base ≤ b → w.heap[b]? = some (.cells k e fr) → loc.avoids b → w'.heap[b]? = some (.cells k e fr) ∧ loc'.avoids b) :
    ∀ (d : D) (y : Value), clean d = true → Rep w base loc d y → Rep w' base' loc' d y
  | .junk, _, hc, _ => by simp [V.clean] at hc
  | .v x, y, _, hr => by simpa only [Rep] using hr
  | .ptr id off, y, hc, _ => by simp [V.clean] at hc
  | .slc full sz id off len, y, hc, _ => by simp [V.clean] at hc
  | .ref mine c off, y, hc, hr => by
    simp only [V.clean, Bool.and_eq_true] at hc
    simp only [Rep] at hr ⊢
    obtain ⟨b, o, xs, h1, ⟨k, e, fr, h2, h2'⟩, h3, h4, h5⟩ := hr
    obtain ⟨g1, g2⟩ := hold b k e fr (h4 hc.1) h2 h3
    exact ⟨b, o, xs, h1, ⟨k, e, fr, g1, h2'⟩, g2, fun hm => Nat.le_trans hle (h4 hm), Rep.clean hle hold c _ hc.2 h5⟩
  | .row mine sz c len, y, hc, hr => by
    simp only [V.clean, Bool.and_eq_true] at hc
    simp only [Rep] at hr ⊢
    obtain ⟨a, cap, xs, h1, h2, h3, h4, h5⟩ := hr
    refine ⟨a, cap, xs, h1, h2, Rep.clean hle hold c _ hc.2 h3, h4, ?_⟩
    rcases h5 with h5 | ⟨b, o, g1, ⟨k, e, fr, g2, g2'⟩, g3, g4⟩
    · exact .inl h5
    · obtain ⟨g5, g6⟩ := hold b k e fr (g4 hc.1) g2 g3
      exact .inr ⟨b, o, g1, ⟨k, e, fr, g5, g2'⟩, g6, fun hm => Nat.le_trans hle (g4 hm)⟩
  | .agg ds, y, hc, hr => by
    simp only [V.clean] at hc
    simp only [Rep] at hr ⊢
    obtain ⟨vs, h1, h2, h3⟩ := hr
    exact ⟨vs, h1, RepL.clean hle hold ds vs hc h2, h3⟩
  | .tup ds, y, hc, hr => by
    simp only [V.clean] at hc
    simp only [Rep] at hr ⊢
    obtain ⟨vs, h1, h2⟩ := hr
    exact ⟨vs, h1, RepL.clean hle hold ds vs hc h2⟩
  | .fn f first caps, y, hc, hr => by
    simp only [V.clean, Bool.and_eq_true] at hc
    simp only [Rep] at hr ⊢
    obtain ⟨a, b, h1, h2, h3⟩ := hr
    exact ⟨a, b, h1, RepL.clean hle hold first a hc.1 h2, RepL.clean hle hold caps b hc.2 h3⟩
theorem RepL.clean {base' base : Nat} {w w' : World} {loc loc' : Loc} (hle : base' ≤ base)
    (hold : ∀ b k e fr, base ≤ b → w.heap[b]? = some (.cells k e fr) → loc.avoids b → w'.heap[b]? = some (.cells k e fr) ∧ loc'.avoids b) :
    ∀ (ds : List D) (vs : List Value), cleanL ds = true → RepL w base loc ds vs → RepL w' base' loc' ds vs
  | [], vs, _, hr => by simpa only [RepL] using hr
  | d :: ds, vs, hc, hr => by
    simp only [V.cleanL, Bool.and_eq_true] at hc
    simp only [RepL] at hr ⊢
    obtain ⟨y, ys, h1, h2, h3⟩ := hr
    exact ⟨y, ys, h1, Rep.clean hle hold d y hc.1 h2, RepL.clean hle hold ds ys hc.2 h3⟩
end

theorem cleanL_get : ∀ {ds : List D} {j : Nat} {d : D}, cleanL ds = true → ds[j]? = some d → clean d = true
  | [], j, d, _, h => by simp at h
  | e :: ds, j, d, hc, h => by
    simp only [cleanL, Bool.and_eq_true] at hc
    cases j with
    | zero => simp at h; subst h; exact hc.1
    | succ j => simp at h; exact cleanL_get hc.2 h

theorem hasRow_imp : ∀ {ds : List D} (i c j : Nat), hasRow ds = false → impL i c j ds = ds
  | [], i, c, j, _ => rfl
  | d :: ds, i, c, j, h => by
    cases d <;> first | (simp only [hasRow, reduceCtorEq] at h; done) | (simp only [hasRow] at h; simp only [impL, impD, hasRow_imp i c (j + 1) h])
theorem hasRow_C : ∀ {ds : List D} (j : Nat), hasRow ds = false → impC ds j = none
  | [], j, _ => by simp [impC]
  | d :: ds, j, h => by
    have h' : hasRow ds = false ∧ rowC d = none := by cases d <;> simp_all [hasRow, rowC]
    cases j with
    | zero => simp [impC, h'.2]
    | succ j => simpa [impC] using hasRow_C j h'.1

section
variable {P : Program} {T : Types} {w : World} {base : Nat} {loc : Loc}

/-- What a call hands back, as an effect. -/
theorem eff_of_res {w' : World} {res : D} {y : Value} {locr : Loc} {i : Nat} {c : Nat → Nat} (hle : base ≤ w.heap.size) (hrange : ∀ id b n, loc id = some (some b, n) → b < w.heap.size)
    (hb : RowKit.Below w.heap.size w w') (h : ResRep w' w.heap.size res y locr) : EffRel base c (some i) w loc w' y (Eff.ofRes i (c i) res) := by
  have hnew : ∀ (g : Nat → Option (Option Nat × Nat)), (∀ j b n, g j = some (some b, n) → ∃ id, locr id = some (some b, n)) → ∀ b, w.heap.size ≤ b → locr.avoids b → (locR loc i (c i) g).avoids b := by
    intro g hg b hbb hv id n he
    unfold locR at he
    cases hcase : (id.1 == i && id.2.1 == c i) <;> simp only [hcase, cond_true, cond_false] at he
    · have := hrange _ _ _ he; omega
    · obtain ⟨id', h'⟩ := hg _ _ _ he
      exact hv id' n h'
  unfold Eff.ofRes
  cases hrow : hasRow (tops res) with
  | false =>
    simp only [cond_false, EffRel]
    refine ⟨hb, ?_⟩
    have hno : ∀ id l, locr id ≠ some l := by
      intro id l he
      have := (h.key id l he).2.2
      rw [hasRow_C _ hrow] at this
      simp at this
    have himp : impV 0 0 res = res := by
      cases res with
      | tup ds => simp only [impV]; rw [hasRow_imp 0 0 0 (by simpa only [tops] using hrow)]
      | row => simp [tops, hasRow] at hrow
      | _ => rfl
    have hr := h.rep
    rw [himp] at hr
    have hold : ∀ b k e fr, w.heap.size ≤ b → w'.heap[b]? = some (.cells k e fr) → locr.avoids b → w'.heap[b]? = some (.cells k e fr) ∧ loc.avoids b := by
      intro b k e fr hbb hk _
      exact ⟨hk, fun id n he => by have := hrange _ _ _ he; omega⟩
    have hc := h.new
    cases res with
    | tup ds =>
      simp only [Rep] at hr ⊢
      obtain ⟨vs, h1, h2⟩ := hr
      exact ⟨vs, h1, RepL.clean hle hold _ _ (by simpa only [tops] using hc) h2⟩
    | _ => exact Rep.clean hle hold _ _ (by simpa only [tops, cleanL, Bool.and_true] using hc) hr
  | true =>
    simp only [cond_true, EffRel]
    refine ⟨hb, i, fun j => locr (0, 0, j), rfl, ?_⟩
    have hid : ∀ id l, locr id = some l → id = (0, 0, id.2.2) := by
      intro id l he
      obtain ⟨h1, h2, _⟩ := h.key id l he
      obtain ⟨x, y, z⟩ := id
      simp only at h1 h2
      subst h1; subst h2; rfl
    have hold : ∀ b k e fr, w.heap.size ≤ b → w'.heap[b]? = some (.cells k e fr) → locr.avoids b → w'.heap[b]? = some (.cells k e fr) ∧ (locR loc i (c i) fun j => locr (0, 0, j)).avoids b :=
      fun b k e fr hbb hk hv => ⟨hk, hnew _ (fun j b n he => ⟨_, he⟩) b hbb hv⟩
    have hat : ∀ j, (locR loc i (c i) fun j => locr (0, 0, j)) (i, c i, j) = locr (0, 0, j) := by intro j; simp [locR]
    have one : ∀ (d : D) (j : Nat) (z : Value), clean d = true → Rep w' w.heap.size locr (impD 0 0 j d) z → Rep w' base (locR loc i (c i) fun j => locr (0, 0, j)) (impD i (c i) j d) z := by
      intro d j z hc hr
      cases d with
      | row m sz cc len =>
        simp only [impD, Rep] at hr ⊢
        rw [hat j]
        exact hr
      | _ => exact Rep.clean hle hold _ _ hc (by simpa only [impD] using hr)
    have many : ∀ (ds : List D) (j : Nat) (zs : List Value), cleanL ds = true → RepL w' w.heap.size locr (impL 0 0 j ds) zs → RepL w' base (locR loc i (c i) fun j => locr (0, 0, j)) (impL i (c i) j ds) zs := by
      intro ds
      induction ds with
      | nil => intro j zs _ hr; simpa only [impL, RepL] using hr
      | cons d ds ih =>
        intro j zs hc hr
        simp only [cleanL, Bool.and_eq_true] at hc
        simp only [impL, RepL] at hr ⊢
        obtain ⟨z, zs', h1, h2, h3⟩ := hr
        exact ⟨z, zs', h1, one d j z hc.1 h2, ih (j + 1) zs' hc.2 h3⟩
    have hc := h.new
    constructor
    · have hr := h.rep
      cases res with
      | tup ds =>
        simp only [impV, Rep] at hr ⊢
        obtain ⟨vs, h1, h2⟩ := hr
        exact ⟨vs, h1, many ds 0 vs (by simpa only [tops] using hc) h2⟩
      | _ => exact one _ 0 y (by simpa only [tops, cleanL, Bool.and_true] using hc) (by simpa only [impV] using hr)
    · intro j b n he
      exact h.range _ _ _ he
    · intro j l he
      exact (h.key _ _ he).2.2
    · intro j j' b n n' he he'
      have := h.inj _ _ _ _ _ he he'
      simpa using this
    · intro j c' hj
      obtain ⟨l, xs, g1, g2, g3⟩ := h.mem j c' hj
      refine ⟨l, xs, g1, Rep.clean hle hold _ _ ?_ g2, g3⟩
      unfold impC at hj
      split at hj
      · rename_i d hd
        have := cleanL_get hc hd
        cases d <;> first | (simp only [rowC, reduceCtorEq] at hj; done) | (simp only [rowC, Option.some.injEq] at hj; subst hj; simp only [V.clean, Bool.and_eq_true] at this; exact this.2)
      · simp at hj

/-- A new block that holds a content at its head (and more behind it). -/
theorem eff_new {o : Oper} {s : St} {a : Act} (ctx : Ctx P T w base loc s a) (hd : ∀ i, o.dst = some i → i < lentKey) {K : Eff → Prop} {dm : Id → D} {cd : D} {xs : List Value} {e : TypeId}
    (h : newK s o.dst dm cd K) (hc : Rep w base loc cd (.agg ⟨xs⟩)) (more : List Value) {y : Value}
    (hm : ∀ i (loc' : Loc), loc' (i, s.c i, 0) = some (some w.heap.size, xs.length) → Rep (w.alloc (.cells ⟨xs ++ more⟩ e (0, 0))) base loc' (dm (i, s.c i, 0)) y) :
    ∃ ef, K ef ∧ EffRel base s.c o.dst w loc (w.alloc (.cells ⟨xs ++ more⟩ e (0, 0))) y ef := by
  unfold newK at h
  split at h
  · rename_i i hi
    refine ⟨_, h, ?_⟩
    simp only [EffRel]
    refine ⟨below_new _ _, i, _, hi, new_rel more hc ctx.range ?_ ?_⟩
    · intro id l hl hk
      have := ctx.cnt id l hl (by rw [hk]; exact hd i hi)
      rw [hk] at this
      exact this
    · exact hm i _ (by simp [locR])
  · exact h.elim

end
end Go.V
