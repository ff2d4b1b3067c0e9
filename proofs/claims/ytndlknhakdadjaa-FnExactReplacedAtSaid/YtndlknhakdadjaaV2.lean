/- The abstract states are sound, first part: what a value stands for stays so while memory grows; data out of a value. -/
import Derived.Test.YtndlknhakdadjaaV1
set_option linter.unusedVariables false
set_option linter.unusedSimpArgs false
namespace Go.V

structure Ext (base' base : Nat) (w : World) (loc : Loc) (w' : World) (loc' : Loc) : Prop where
  le : base' ≤ base
  keep : ∀ id l, loc id = some l → loc' id = some l
  old : ∀ b k e fr, w.heap[b]? = some (.cells k e fr) → loc.avoids b → w'.heap[b]? = some (.cells k e fr) ∧ loc'.avoids b
  own : ∀ id b n k e fr, loc id = some (some b, n) → w.heap[b]? = some (.cells k e fr) → ∃ k' e' fr', w'.heap[b]? = some (.cells k' e' fr') ∧ k.size ≤ k'.size

theorem Ext.at {base' base : Nat} {w w' : World} {loc loc' : Loc} (h : Ext base' base w loc w' loc') {b o : Nat} {xs : List Value} (ha : At w b o xs) (hv : loc.avoids b) :
    At w' b o xs ∧ loc'.avoids b := by
  obtain ⟨k, e, fr, hk, h1, h2⟩ := ha
  obtain ⟨h3, h4⟩ := h.old b k e fr hk hv
  exact ⟨⟨k, e, fr, h3, h1, h2⟩, h4⟩

mutual
theorem Rep.ext {base' base : Nat} {w w' : World} {loc loc' : Loc} (h : Ext base' base w loc w' loc') : ∀ (d : D) (y : Value), Rep w base loc d y → Rep w' base' loc' d y
  | .junk, _, _ => by simp [Rep]
  | .v x, y, hr => by simpa only [Rep] using hr
  | .ptr id off, y, hr => by
    simp only [Rep] at hr ⊢
    obtain ⟨b, n, h1, h2⟩ := hr
    exact ⟨b, n, h.keep _ _ h1, h2⟩
  | .slc full sz id off len, y, hr => by
    simp only [Rep] at hr ⊢
    obtain ⟨a, cap, l, n, h1, h2, h3, h4, h5, h6⟩ := hr
    refine ⟨a, cap, l, n, h1, h2, h.keep _ _ h3, h4, h5, ?_⟩
    cases l with
    | none => exact h6
    | some b =>
      obtain ⟨o, g1, g2, g3⟩ := h6
      refine ⟨o, g1, g2, fun hf => ?_⟩
      obtain ⟨g4, k, e, fr, g5, g6⟩ := g3 hf
      obtain ⟨k', e', fr', g7, g8⟩ := h.own _ _ _ _ _ _ h3 g5
      exact ⟨g4, k', e', fr', g7, Nat.le_trans g6 g8⟩
  | .ref mine c off, y, hr => by
    simp only [Rep] at hr ⊢
    obtain ⟨b, o, xs, h1, h2, h3, h4, h5⟩ := hr
    obtain ⟨g1, g2⟩ := h.at h2 h3
    exact ⟨b, o, xs, h1, g1, g2, fun hm => Nat.le_trans h.le (h4 hm), Rep.ext h c _ h5⟩
  | .row mine sz c len, y, hr => by
    simp only [Rep] at hr ⊢
    obtain ⟨a, cap, xs, h1, h2, h3, h4, h5⟩ := hr
    refine ⟨a, cap, xs, h1, h2, Rep.ext h c _ h3, h4, ?_⟩
    rcases h5 with h5 | ⟨b, o, g1, g2, g3, g4⟩
    · exact .inl h5
    · obtain ⟨g5, g6⟩ := h.at g2 g3
      exact .inr ⟨b, o, g1, g5, g6, fun hm => Nat.le_trans h.le (g4 hm)⟩
  | .agg ds, y, hr => by
    simp only [Rep] at hr ⊢
    obtain ⟨vs, h1, h2, h3⟩ := hr
    exact ⟨vs, h1, RepL.ext h ds vs h2, h3⟩
  | .tup ds, y, hr => by
    simp only [Rep] at hr ⊢
    obtain ⟨vs, h1, h2⟩ := hr
    exact ⟨vs, h1, RepL.ext h ds vs h2⟩
  | .fn f first caps, y, hr => by
    simp only [Rep] at hr ⊢
    obtain ⟨a, b, h1, h2, h3⟩ := hr
    exact ⟨a, b, h1, RepL.ext h first a h2, RepL.ext h caps b h3⟩
theorem RepL.ext {base' base : Nat} {w w' : World} {loc loc' : Loc} (h : Ext base' base w loc w' loc') : ∀ (ds : List D) (vs : List Value), RepL w base loc ds vs → RepL w' base' loc' ds vs
  | [], vs, hr => by simpa only [RepL] using hr
  | d :: ds, vs, hr => by
    simp only [RepL] at hr ⊢
    obtain ⟨y, ys, h1, h2, h3⟩ := hr
    exact ⟨y, ys, h1, Rep.ext h d y h2, RepL.ext h ds ys h3⟩
end

section
variable {w : World} {base : Nat} {loc : Loc}

theorem RepL.length : ∀ {ds : List D} {vs : List Value}, RepL w base loc ds vs → ds.length = vs.length
  | [], vs, h => by simp only [RepL] at h; simp [h]
  | d :: ds, vs, h => by
    simp only [RepL] at h
    obtain ⟨y, ys, rfl, _, h3⟩ := h
    simp [RepL.length h3]

theorem RepL.get : ∀ {ds : List D} {vs : List Value} (_ : RepL w base loc ds vs) (i : Nat) (d : D), ds[i]? = some d → ∃ y, vs[i]? = some y ∧ Rep w base loc d y
  | [], vs, _, i, d, hd => by simp at hd
  | d0 :: ds, vs, h, i, d, hd => by
    simp only [RepL] at h
    obtain ⟨y, ys, rfl, h2, h3⟩ := h
    cases i with
    | zero => simp at hd; subst hd; exact ⟨y, by simp, h2⟩
    | succ i => simp at hd; simpa using RepL.get h3 i d hd

theorem RepL.append : ∀ {ds es : List D} {vs us : List Value}, RepL w base loc ds vs → RepL w base loc es us → RepL w base loc (ds ++ es) (vs ++ us)
  | [], es, vs, us, h, h' => by simp only [RepL] at h; subst h; simpa using h'
  | d :: ds, es, vs, us, h, h' => by
    simp only [RepL] at h
    obtain ⟨y, ys, rfl, h2, h3⟩ := h
    simp only [List.cons_append, RepL]
    exact ⟨y, ys ++ us, rfl, h2, RepL.append h3 h'⟩

theorem RepL.drop : ∀ {ds : List D} {vs : List Value} (n : Nat), RepL w base loc ds vs → RepL w base loc (ds.drop n) (vs.drop n)
  | ds, vs, 0, h => by simpa using h
  | [], vs, n + 1, h => by simp only [RepL] at h; subst h; simp [RepL]
  | d :: ds, vs, n + 1, h => by
    simp only [RepL] at h
    obtain ⟨y, ys, rfl, h2, h3⟩ := h
    simpa using RepL.drop n h3

theorem RepL.take : ∀ {ds : List D} {vs : List Value} (n : Nat), RepL w base loc ds vs → RepL w base loc (ds.take n) (vs.take n)
  | ds, vs, 0, h => by simp [RepL]
  | [], vs, n + 1, h => by simp only [RepL] at h; subst h; simp [RepL]
  | d :: ds, vs, n + 1, h => by
    simp only [RepL] at h
    obtain ⟨y, ys, rfl, h2, h3⟩ := h
    simp only [List.take_succ_cons, RepL]
    exact ⟨y, ys.take n, rfl, h2, RepL.take n h3⟩

theorem RepL.splice {ds es : List D} {vs us : List Value} (off : Nat) (h : RepL w base loc ds vs) (h' : RepL w base loc es us) : RepL w base loc (splice ds off es) (splice vs off us) := by
  unfold V.splice
  rw [h'.length]
  exact ((h.take off).append h').append (h.drop _)

theorem RepL.set {ds : List D} {vs : List Value} (i : Nat) {d : D} {y : Value} (h : RepL w base loc ds vs) (h' : Rep w base loc d y) : RepL w base loc (ds.set i d) (vs.set i y) := by
  induction ds generalizing vs i with
  | nil => simp only [RepL] at h; subst h; simp [RepL]
  | cons d0 ds ih =>
    simp only [RepL] at h
    obtain ⟨y0, ys, rfl, h2, h3⟩ := h
    cases i with
    | zero => simp only [List.set_cons_zero, RepL]; exact ⟨y, ys, rfl, h', h3⟩
    | succ i => simp only [List.set_cons_succ, RepL]; exact ⟨y0, ys.set i y, rfl, h2, ih i h3⟩

theorem flat_one {x : Value} (h : x.oneCell' = true) : Flat x = true := by cases x <;> simp_all [Value.oneCell', Flat]

theorem RepL.vals {xs : List Value} (h : xs.all Value.oneCell' = true) : RepL w base loc (xs.map .v) xs := by
  induction xs with
  | nil => simp [RepL]
  | cons x xs ih =>
    simp only [List.all_cons, Bool.and_eq_true] at h
    simp only [List.map_cons, RepL]
    exact ⟨x, xs, rfl, by simp only [Rep, true_and]; exact flat_one h.1, ih h.2⟩

theorem RepL.of_plain : ∀ {ds : List D} {xs vs : List Value}, plainVals ds = some xs → RepL w base loc ds vs → vs = xs
  | [], xs, vs, hp, h => by simp only [plainVals, Option.some.injEq] at hp; simp only [RepL] at h; rw [h, ← hp]
  | d :: ds, xs, vs, hp, h => by
    simp only [RepL] at h
    obtain ⟨y, ys, rfl, h2, h3⟩ := h
    cases d <;> simp only [plainVals] at hp <;> try (exact absurd hp (by simp))
    split at hp
    · rename_i x xs' hx
      simp only [Option.some.injEq] at hp
      simp only [Rep] at h2
      rw [← hp, h2.1, RepL.of_plain hx h3]
    · simp at hp

theorem Rep.mkAgg {ds : List D} {vs : List Value} (h : RepL w base loc ds vs) (h1 : vs.all Value.oneCell' = true) : Rep w base loc (mkAgg ds) (.agg ⟨vs⟩) := by
  unfold V.mkAgg
  split
  · rename_i xs hx
    have := h.of_plain hx
    subst this
    simp only [Rep, true_and]
    simpa [Flat] using h1
  · simp only [Rep]
    exact ⟨vs, rfl, h, h1⟩

/-- The cells behind an aggregate's value. -/
theorem Rep.asList {d : D} {ds : List D} {xs : List Value} (hd : asList d = some ds) (h : Rep w base loc d (.agg ⟨xs⟩)) : RepL w base loc ds xs ∧ xs.all Value.oneCell' = true := by
  cases d with
  | v x =>
    cases x with
    | agg a =>
      simp only [V.asList, Option.some.injEq] at hd
      subst hd
      simp only [Rep, Value.agg.injEq] at h
      obtain ⟨h1, h2⟩ := h
      subst h1
      simp only [Flat] at h2
      exact ⟨.vals h2, h2⟩
    | _ => simp [V.asList] at hd
  | agg es =>
    simp only [V.asList, Option.some.injEq] at hd
    subst hd
    simp only [Rep, Value.agg.injEq, Array.mk.injEq] at h
    obtain ⟨vs, rfl, h2, h3⟩ := h
    exact ⟨h2, h3⟩
  | _ => simp [V.asList] at hd

theorem Rep.agg_one {d : D} {xs : List Value} (h : Rep w base loc d (.agg ⟨xs⟩)) (hd : (V.asList d).isSome = true) : xs.all Value.oneCell' = true := by
  obtain ⟨ds, hd⟩ := Option.isSome_iff_exists.1 hd
  exact (h.asList hd).2

theorem At.of_blk {w : World} {b : Nat} {xs : List Value} (h : BlkAt w (some b) xs) : At w b 0 xs := by
  obtain ⟨k, e, h1, h2, h3⟩ := h
  exact ⟨k, e, (0, 0), h1, by omega, by simpa using h2⟩

theorem At.sub {w : World} {b o : Nat} {xs : List Value} (h : At w b o xs) (i n : Nat) (hn : i + n ≤ xs.length) : At w b (o + i) ((xs.drop i).take n) := by
  obtain ⟨k, e, fr, h1, h2, h3⟩ := h
  have hl : ((xs.drop i).take n).length = n := by simp; omega
  refine ⟨k, e, fr, h1, by rw [hl]; omega, ?_⟩
  rw [hl]
  conv => rhs; rw [← h3]
  rw [List.drop_take, List.take_take, List.drop_drop]
  congr 1
  omega

theorem At.get {w : World} {b o : Nat} {xs : List Value} (h : At w b o xs) {i : Nat} {x : Value} (hi : xs[i]? = some x) : w.cell? ⟨b, o + i, none⟩ = some x := by
  obtain ⟨k, e, fr, h1, h2, h3⟩ := h
  have hlt : i < xs.length := (List.getElem?_eq_some_iff.1 hi).1
  rw [← h3] at hi
  rw [List.getElem?_take, if_pos hlt, List.getElem?_drop] at hi
  simp only [World.cell?, h1]
  simpa using hi

/-- Memory that the abstract one stands for. -/
def MemOk (w : World) (base : Nat) (loc : Loc) (m : Id → Option D) : Prop :=
  ∀ id c, m id = some c → ∃ l xs, loc id = some (l, xs.length) ∧ Rep w base loc c (.agg ⟨xs⟩) ∧ BlkAt w l xs

theorem mapO_rep {f : D → Option D} {w' : World} {B : Nat} {loc' : Loc} (hf : ∀ d d' y, f d = some d' → Rep w base loc d y → Rep w' B loc' d' y) :
    ∀ {ds ds' : List D} {vs : List Value}, mapO f ds = some ds' → RepL w base loc ds vs → RepL w' B loc' ds' vs
  | [], ds', vs, hm, h => by
    simp only [mapO, Option.some.injEq] at hm
    subst hm
    simpa only [RepL] using h
  | d :: ds, ds', vs, hm, h => by
    simp only [mapO] at hm
    split at hm
    · rename_i y hy
      split at hm
      · rename_i ys hys
        simp only [Option.some.injEq] at hm
        subst hm
        simp only [RepL] at h ⊢
        obtain ⟨y0, vs', rfl, h2, h3⟩ := h
        exact ⟨y0, vs', rfl, hf _ _ _ hy h2, mapO_rep hf hys h3⟩
      · simp at hm
    · simp at hm

theorem mapO_length {α β : Type} {f : α → Option β} : ∀ {ds : List α} {ds' : List β}, mapO f ds = some ds' → ds'.length = ds.length
  | [], ds', hm => by simp only [mapO, Option.some.injEq] at hm; subst hm; rfl
  | d :: ds, ds', hm => by
    simp only [mapO] at hm
    split at hm
    · split at hm
      · rename_i ys hys
        simp only [Option.some.injEq] at hm
        subst hm
        simp [mapO_length hys]
      · simp at hm
    · simp at hm

/-- Data for an argument stand for what the value stands for, seen from a place that owns nothing. -/
theorem deep_arg {m : Id → Option D} (hm : MemOk w base loc m) (B : Nat) : ∀ (n : Nat) (d d' : D) (y : Value), deep false [] m n d = some d' → Rep w base loc d y → Rep w B noLoc d' y
  | 0, d, d', y, h, _ => by simp [deep] at h
  | n + 1, d, d', y, h, hr => by
    have ih := deep_arg hm B n
    have hav : ∀ b, noLoc.avoids b := fun b id k => by simp [noLoc]
    cases d with
    | junk => simp [deep] at h
    | v x =>
      simp only [deep, Option.some.injEq] at h
      subst h
      simpa only [Rep] using hr
    | ptr id off =>
      simp only [deep, Bool.false_and, cond_false] at h
      split at h
      · rename_i c hc
        split at h
        · rename_i c' hc'
          simp only [Option.some.injEq] at h
          subst h
          simp only [Rep] at hr ⊢
          obtain ⟨b, k, h1, h2⟩ := hr
          obtain ⟨l, xs, g1, g2, g3⟩ := hm id c hc
          rw [h1] at g1
          simp only [Option.some.injEq, Prod.mk.injEq] at g1
          obtain ⟨rfl, _⟩ := g1
          exact ⟨b, 0, xs, by rw [h2, Nat.zero_add], At.of_blk g3, hav b, by simp, ih c c' _ hc' g2⟩
        · simp at h
      · simp at h
    | slc full sz id off len =>
      simp only [deep, Bool.false_and, cond_false] at h
      have main : ∀ c c' : D, m id = some c → (∀ xs, Rep w base loc c (.agg ⟨xs⟩) → off + len * sz ≤ xs.length → Rep w B noLoc c' (.agg ⟨(xs.drop off).take (len * sz)⟩)) → Rep w B noLoc (.row false sz c' len) y := by
        intro c c' hc hcc
        simp only [Rep] at hr ⊢
        obtain ⟨a, cap, l, k, h1, h2, h3, h4, h5, h6⟩ := hr
        obtain ⟨l', xs, g1, g2, g3⟩ := hm id c hc
        rw [h3] at g1
        simp only [Option.some.injEq, Prod.mk.injEq] at g1
        obtain ⟨rfl, rfl⟩ := g1
        refine ⟨a, cap, (xs.drop off).take (len * sz), h1, h2, hcc xs g2 h4, by simp; omega, ?_⟩
        cases l with
        | none => exact .inl (by simp [h6.1])
        | some b =>
          obtain ⟨o, k1, k2, k3⟩ := h6
          by_cases hz : len * sz = 0
          · exact .inl hz
          · have hl : len ≠ 0 := fun e => hz (by simp [e])
            refine .inr ⟨b, o, k1, ?_, hav b, by simp⟩
            have := (At.of_blk g3).sub off (len * sz) h4
            rw [Nat.zero_add, ← k2 hl] at this
            rw [← k2 hl]
            exact this
      split at h
      · rename_i a hc
        simp only [Option.some.injEq] at h
        subst h
        refine main _ _ hc fun xs hx hl => ?_
        simp only [Rep, Value.agg.injEq] at hx ⊢
        obtain ⟨rfl, hf⟩ := hx
        refine ⟨rfl, ?_⟩
        simp only [Flat, List.all_eq_true] at hf ⊢
        exact fun x hx => hf x (List.mem_of_mem_drop (List.mem_of_mem_take hx))
      · rename_i ds hc
        split at h
        · rename_i ds' hds
          simp only [Option.some.injEq] at h
          subst h
          refine main _ _ hc fun xs hx hl => ?_
          simp only [Rep, Value.agg.injEq, Array.mk.injEq] at hx ⊢
          obtain ⟨vs, rfl, h2, h3⟩ := hx
          refine ⟨_, rfl, mapO_rep (fun d d' y => ih d d' y) hds ((h2.drop off).take _), ?_⟩
          simp only [List.all_eq_true] at h3 ⊢
          exact fun x hx => h3 x (List.mem_of_mem_drop (List.mem_of_mem_take hx))
        · simp at h
      · simp at h
    | ref mi c off =>
      simp only [deep, Bool.false_and, cond_false] at h
      split at h
      · rename_i c' hc'
        simp only [Option.some.injEq] at h
        subst h
        simp only [Rep] at hr ⊢
        obtain ⟨b, o, xs, h1, h2, h3, h4, h5⟩ := hr
        exact ⟨b, o, xs, h1, h2, hav b, by simp, ih c c' _ hc' h5⟩
      · simp at h
    | row mi sz c len =>
      simp only [deep, Bool.false_and, cond_false] at h
      split at h
      · rename_i c' hc'
        simp only [Option.some.injEq] at h
        subst h
        simp only [Rep] at hr ⊢
        obtain ⟨a, cap, xs, h1, h2, h3, h4, h5⟩ := hr
        refine ⟨a, cap, xs, h1, h2, ih c c' _ hc' h3, h4, ?_⟩
        rcases h5 with h5 | ⟨b, o, g1, g2, g3, g4⟩
        · exact .inl h5
        · exact .inr ⟨b, o, g1, g2, hav b, by simp⟩
      · simp at h
    | agg ds =>
      simp only [deep] at h
      split at h
      · rename_i ds' hds
        simp only [Option.some.injEq] at h
        subst h
        simp only [Rep] at hr ⊢
        obtain ⟨vs, h1, h2, h3⟩ := hr
        exact ⟨vs, h1, mapO_rep (fun d d' y => ih d d' y) hds h2, h3⟩
      · simp at h
    | tup ds =>
      simp only [deep] at h
      split at h
      · rename_i ds' hds
        simp only [Option.some.injEq] at h
        subst h
        simp only [Rep] at hr ⊢
        obtain ⟨vs, h1, h2⟩ := hr
        exact ⟨vs, h1, mapO_rep (fun d d' y => ih d d' y) hds h2⟩
      · simp at h
    | fn f a b =>
      simp only [deep] at h
      split at h
      · rename_i a' ha
        split at h
        · rename_i b' hb
          simp only [Option.some.injEq] at h
          subst h
          simp only [Rep] at hr ⊢
          obtain ⟨va, vb, h1, h2, h3⟩ := hr
          exact ⟨va, vb, h1, mapO_rep (fun d d' y => ih d d' y) ha h2, mapO_rep (fun d d' y => ih d d' y) hb h3⟩
        · simp at h
      · simp at h

end
end Go.V
