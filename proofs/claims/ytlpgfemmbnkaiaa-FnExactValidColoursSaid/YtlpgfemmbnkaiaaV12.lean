/- The abstract states are sound, last part: code, and a whole function: a contract from the weakest precondition of the body. -/
import Derived.Test.YtlpgfemmbnkaiaaV11
import Derived.Deep.LoopGhost
set_option linter.unusedVariables false
set_option linter.unusedSimpArgs false
namespace Go.V

section
variable {P : Program} {T : Types} {n : Nat} {w0 w : World} {ch : Nat → Prop} {s : St} {a : Act} {loc : Loc} {ops : Array Oper} {k : Nat}

theorem Inv.hide (h : Inv P T n w0 ch s a w loc) (b : Nat → Bool) (c0 : Nat → Nat) : Ctx P T w w0.heap.size loc (s.hide b c0) a where
  types := h.types
  ev x := by
    have := h.ev x
    have e : (s.hide b c0).ev x = s.ev x := ev_congr fun _ _ => rfl
    rw [e]; exact this
  mem id c hc := by
    simp only [St.hide] at hc
    cases hh : (b id.1 && Nat.ble (c0 id.1) id.2.1) <;> simp only [hh, cond_true, cond_false] at hc
    · exact h.mem id c hc
    · cases hc
  le := h.same.size
  range id b k he := (h.range id b k he).2
  cnt := h.cnt

theorem Inv.drew (h : Inv P T n w0 ch s a w loc) : Inv P T n w0 ch s a w.drew loc := by
  have hb : RowKit.Below w.heap.size w w.drew := (RowKit.Below.refl _ _).drew
  have hext : Ext w0.heap.size w0.heap.size w loc w.drew loc := ext_below hb fun id b k he => (h.range id b k he).2
  exact ⟨h.types, h.size, h.small, h.defers, h.same.below hb, fun i => Rep.ext hext _ _ (h.tmp i), fun id c hc => by
    obtain ⟨l, xs, g1, g2, g3⟩ := h.mem id c hc
    exact ⟨l, xs, g1, Rep.ext hext _ _ g2, blk_ext hb g3⟩, h.cnt, h.range, h.inj⟩

theorem mem_ready {listed : Array Bool} (hs : listed.size = ops.size) {i : Nat} : i ∈ Region.ready .any ops listed ↔ i < ops.size ∧ listed.getD i false = false ∧ ∀ e ∈ depsAt ops i, listed.getD e false = true := by
  unfold Region.ready
  rw [List.mem_filter]
  constructor
  · rintro ⟨h1, h2⟩
    have hi : i < ops.size := by simpa using h1
    have ho : ops[i]? = some ops[i] := by simp [hi]
    rw [ho] at h2
    simp only [Bool.and_eq_true, Bool.not_eq_true', Option.map_some, Option.getD_some] at h2
    refine ⟨hi, ?_, ?_⟩
    · have := h2.1
      rw [Array.getD_eq_getD_getElem?] at this ⊢
      have hl : i < listed.size := by omega
      simpa [hl] using this
    · intro e he
      unfold depsAt depsOf at he
      rw [ho] at he
      simp only [List.mem_map, List.mem_filter] at he
      obtain ⟨ed, ⟨hed, hb⟩, rfl⟩ := he
      have := (Array.all_eq_true'.1 h2.2) ed (by simpa using hed)
      simpa [hb] using this
  · rintro ⟨hi, h1, h2⟩
    refine ⟨by simpa using hi, ?_⟩
    have ho : ops[i]? = some ops[i] := by simp [hi]
    rw [ho]
    simp only [Bool.and_eq_true, Bool.not_eq_true', Option.map_some, Option.getD_some]
    refine ⟨?_, ?_⟩
    · rw [Array.getD_eq_getD_getElem?] at h1 ⊢
      have hl : i < listed.size := by omega
      simpa [hl] using h1
    · rw [Array.all_eq_true']
      intro ed hed
      cases hb : Region.binds .any ed
      · rfl
      · simp only [Bool.not_true, Bool.false_or]
        refine h2 _ ?_
        unfold depsAt depsOf
        rw [ho]
        simp only [List.mem_map, List.mem_filter]
        exact ⟨ed, ⟨by simpa using hed, hb⟩, rfl⟩

theorem getD_set {listed : Array Bool} {i j : Nat} : (listed.setIfInBounds i true).getD j false = (if j = i ∧ i < listed.size then true else listed.getD j false) := by
  simp only [Array.getD_eq_getD_getElem?, Array.getElem?_setIfInBounds]
  by_cases h : i = j
  · subst h
    by_cases h2 : i < listed.size <;> simp [h2]
  · simp [h, Ne.symm h]

def unlisted (ops : Array Oper) (listed : Array Bool) : Nat := (List.range ops.size).countP fun i => !listed.getD i false

theorem count_step {listed : Array Bool} (hs : listed.size = ops.size) {i : Nat} (hi : i < ops.size) (hl : listed.getD i false = false) : unlisted ops (listed.setIfInBounds i true) + 1 = unlisted ops listed := by
  unfold unlisted
  have : ∀ (l : List Nat), l.Nodup → ((i ∈ l → l.countP (fun j => !(listed.setIfInBounds i true).getD j false) + 1 = l.countP (fun j => !listed.getD j false)) ∧
      (i ∉ l → l.countP (fun j => !(listed.setIfInBounds i true).getD j false) = l.countP (fun j => !listed.getD j false))) := by
    intro l
    induction l with
    | nil => intro _; simp
    | cons x l ih =>
      intro hn
      rw [List.nodup_cons] at hn
      obtain ⟨h1, h2⟩ := ih hn.2
      simp only [List.countP_cons, getD_set]
      constructor
      · intro hm
        by_cases hx : x = i
        · subst hx
          have h3 := h2 hn.1
          simp only [getD_set] at h3
          simp only [hs, hi, and_self, if_true, hl, Bool.not_true, Bool.not_false, Bool.false_eq_true, if_false, Nat.add_zero]
          rw [← h3]
          simp only [hs, hi]
        · have hm' : i ∈ l := by
            rcases List.mem_cons.1 hm with h | h
            · exact absurd h.symm hx
            · exact h
          have := h1 hm'
          simp only [getD_set] at this
          simp only [hx, false_and, if_false]
          omega
      · intro hm
        have hx : x ≠ i := fun e => hm (by simp [e])
        have hm' : i ∉ l := fun e => hm (by simp [e])
        have := h2 hm'
        simp only [getD_set] at this
        simp only [hx, false_and, if_false]
        omega
  exact (this _ List.nodup_range).1 (by simpa using hi)

theorem all_listed {listed : Array Bool} (h : unlisted ops listed = 0) : ∀ i, i < ops.size → listed.getD i false = true := by
  intro i hi
  unfold unlisted at h
  have := List.countP_eq_zero.1 h i (by simpa using hi)
  simpa using this

/-- What is kept while the region goes on in whatever order. -/
def Phase (P : Program) (T : Types) (n : Nat) (w0 : World) (ch : Nat → Prop) (ops : Array Oper) (k : Nat) (s0 : St) (E : Nat → Eff) (K : St → Prop) (listed : Array Bool) (a : Act) (w : World) : Prop :=
  (∃ loc, (∀ i, listed.getD i false = true → i < k) ∧ Inv P T n w0 ch (stL s0 ops k E fun i => listed.getD i false) a w loc) ∨
  (∃ p s loc, k ≤ p ∧ p ≤ ops.size ∧ (∀ i, i < ops.size → (listed.getD i false = true ↔ i < p)) ∧ opsWp P T ops (ops.toList.drop p) K s ∧ Inv P T n w0 ch s a w loc)

def Closed (ops : Array Oper) (bs : Array Nat) (listed : Array Bool) : Prop :=
  ∀ j i, j < ops.size → i < ops.size → listed.getD j false = true → (bs.getD j 0).testBit i = true → listed.getD i false = true

theorem draw_any {bs : Array Nat} {s0 : St} {E : Nat → Eff} {K : St → Prop} {Q : Exit → Act → World → Prop} (hok : DrawOk ops bs k) (hd : dstOk n ops = true)
    (hE : ∀ i, i < k → StepOk P T ops bs k s0 E i) (hfin : opsWp P T ops (ops.toList.drop k) K (stL s0 ops k E fun x => Nat.blt x k))
    (hQ : ∀ s' a' w' loc', K s' → Inv P T n w0 ch s' a' w' loc' → Q .normal a' w') :
    ∀ (fuel : Nat) (listed : Array Bool) (a : Act) (w : World), listed.size = ops.size → unlisted ops listed ≤ fuel → Closed ops bs listed → Phase P T n w0 ch ops k s0 E K listed a w →
      wpAny P .any ops Q fuel listed a w := by
  have two : ∀ (listed : Array Bool) (a : Act) (w : World), listed.size = ops.size → (∀ i, i < k → listed.getD i false = true) → Phase P T n w0 ch ops k s0 E K listed a w →
      ∃ p s loc, k ≤ p ∧ p ≤ ops.size ∧ (∀ i, i < ops.size → (listed.getD i false = true ↔ i < p)) ∧ opsWp P T ops (ops.toList.drop p) K s ∧ Inv P T n w0 ch s a w loc := by
    intro listed a w hs hall hph
    rcases hph with ⟨loc, h1, h2⟩ | h
    · refine ⟨k, _, loc, Nat.le_refl _, hok.le, fun i hi => ⟨h1 i, hall i⟩, hfin, ?_⟩
      have : stL s0 ops k E (fun x => Nat.blt x k) = stL s0 ops k E fun i => listed.getD i false := stL_congrL fun i hi => by
        rw [hall i hi, blt_eq]; simpa using hi
      rw [this]; exact h2
    · exact h
  have done : ∀ (listed : Array Bool) (a : Act) (w : World), listed.size = ops.size → (∀ i, i < ops.size → listed.getD i false = true) → Phase P T n w0 ch ops k s0 E K listed a w → Q .normal a w := by
    intro listed a w hs hall hph
    obtain ⟨p, s, loc, h1, h2, h3, h4, h5⟩ := two listed a w hs (fun i hi => hall i (Nat.lt_of_lt_of_le hi hok.le)) hph
    have hp : p = ops.size := by
      rcases Nat.lt_or_ge p ops.size with h | h
      · have := (h3 p h).1 (hall p h); omega
      · omega
    subst hp
    have : ops.toList.drop ops.size = [] := List.drop_eq_nil_of_le (by simp)
    rw [this] at h4
    exact hQ _ _ _ _ h4 h5
  have empty : ∀ (listed : Array Bool), listed.size = ops.size → Region.ready .any ops listed = [] → ∀ i, i < ops.size → listed.getD i false = true := by
    intro listed hs hr i
    induction i using Nat.strongRecOn with
    | _ i ih =>
      intro hi
      cases hl : listed.getD i false with
      | true => rfl
      | false =>
        have : i ∈ Region.ready .any ops listed := (mem_ready hs).2 ⟨hi, hl, fun e he => by
          have := hok.deps i hi e he
          exact ih e this (by omega)⟩
        rw [hr] at this
        cases this
  intro fuel
  induction fuel with
  | zero =>
    intro listed a w hs hf hc hph
    have hall := all_listed (by omega : unlisted ops listed = 0)
    refine ⟨?_, done listed a w hs hall hph⟩
    rw [List.eq_nil_iff_forall_not_mem]
    intro i hi
    obtain ⟨h1, h2, _⟩ := (mem_ready hs).1 hi
    rw [hall i h1] at h2
    cases h2
  | succ fuel ih =>
    intro listed a w hs hf hc hph
    refine ⟨fun hr => done listed a w hs (empty listed hs hr) hph, fun j hj => ?_⟩
    obtain ⟨hjs, hlj, hdeps⟩ := (mem_ready hs).1 hj
    have hbits : ∀ i, i < ops.size → (bs.getD j 0).testBit i = true → listed.getD i false = true := by
      intro i hi hb
      obtain ⟨_, h | ⟨e, he, hej, hee⟩⟩ := hok.cert j i hjs hi hb
      · exact hdeps i h
      · exact hc e i (by omega) hi (hdeps e he) hee
    have hs' : (listed.setIfInBounds j true).size = ops.size := by simp [hs]
    have hf' : unlisted ops (listed.setIfInBounds j true) ≤ fuel := by have := count_step hs hjs hlj; omega
    have hc' : Closed ops bs (listed.setIfInBounds j true) := by
      intro j' i hj' hi hl hb
      rw [getD_set] at hl ⊢
      split
      · rfl
      · split at hl
        · rename_i h; rw [h.1] at hb; exact hbits i hi hb
        · exact hc j' i hj' hi hl hb
    have ho : ops[j]? = some ops[j] := by simp [hjs]
    have hdst : ops[j].dst = dstAt ops j := by simp [dstAt, ho]
    simp only [wpOp, ho]
    by_cases hjk : j < k
    · -- one of the first k
      have h1 : ∃ loc, (∀ i, listed.getD i false = true → i < k) ∧ Inv P T n w0 ch (stL s0 ops k E fun i => listed.getD i false) a w loc := by
        rcases hph with h | ⟨p, s, loc, h1, h2, h3, _⟩
        · exact h
        · have := (h3 j hjs).2 (by omega)
          rw [hlj] at this; cases this
      obtain ⟨loc, hpre, hinv⟩ := h1
      obtain ⟨o, ho', hstep⟩ := hE j hjk
      rw [ho] at ho'
      cases ho'
      obtain ⟨v1, v2, v3⟩ := view_same (s0 := s0) (E := E) (L := fun i => listed.getD i false) hok hjk ho hlj (fun i hi hb => hbits i (Nat.lt_of_lt_of_le hi hok.le) hb)
      have hins : stL s0 ops k E (fun i => (listed.setIfInBounds j true).getD i false) = (stL s0 ops k E fun i => listed.getD i false).eff ops[j].dst (E j) := by
        rw [stL_insert (L := fun i => listed.getD i false) (L' := fun i => (listed.setIfInBounds j true).getD i false) (j := j) hok.uniq hjk hlj (fun i => by
          show (listed.setIfInBounds j true).getD i false = (i == j || listed.getD i false)
          rw [getD_set]
          by_cases hij : i = j
          · simp [hij, hs, hjs]
          · have : (i == j) = false := by simpa using hij
            simp [hij, this]), hdst]
      have hpre' : ∀ i, (listed.setIfInBounds j true).getD i false = true → i < k := by
        intro i hl
        rw [getD_set] at hl
        split at hl
        · rename_i h; rw [h.1]; exact hjk
        · exact hpre i hl
      have hg : guardK ops ops[j] (stL s0 ops k E fun i => listed.getD i false) (quietK P T ops[j] ((stL s0 ops k E fun i => listed.getD i false).hide (unseen ops bs k j) s0.c) (fun e => e = E j)) (E j = .val (.tup [])) := by
        apply guardK_congr v1
        apply guard_join
        rcases hstep with ⟨g1, g2⟩ | ⟨g1, g2⟩
        · refine .inl ⟨g1, quietK_congr (fun x hx => ?_) v2 v3 g2⟩
          apply ev_congr
          rintro t rfl
          refine v1 t ?_
          unfold Oper.looksAt
          rw [List.mem_append]
          left
          rw [List.mem_filterMap]
          exact ⟨_, hx, rfl⟩
        · exact .inr ⟨g1, g2⟩
      rcases guard_yes hinv.tmp hg with ⟨hw, hq⟩ | ⟨hw, hq⟩
      · rw [if_pos hw]
        left
        refine Done.wp (quiet_sound (hinv.hide _ _) (fun i hi => Nat.lt_of_lt_of_le (dst_lt hd ho i hi) hinv.small) hq) ?_
        rintro y w' ⟨e, rfl, heff⟩
        obtain ⟨loc', hinv'⟩ := hinv.eff (e := E j) heff (dst_lt hd ho)
        refine ih _ _ _ hs' hf' hc' (.inl ⟨loc', hpre', ?_⟩)
        rw [hins]; exact hinv'
      · rw [if_neg (by simp [hw])]
        refine ih _ _ _ hs' hf' hc' (.inl ⟨loc, hpre', ?_⟩)
        rw [hins, hq]
        have hput : (stL s0 ops k E fun i => listed.getD i false).eff ops[j].dst (.val (.tup [])) = (stL s0 ops k E fun i => listed.getD i false).put ops[j].dst (.tup []) := by
          cases ops[j].dst <;> rfl
        rw [hput]
        exact hinv.skip _ (dst_lt hd ho)
    · -- one of the others, in its turn
      have hprev : ∀ i, i < j → listed.getD i false = true := fun i hi => hbits i (by omega) (hok.fins j i (by omega) hjs hi)
      obtain ⟨p, s, loc, h1, h2, h3, h4, h5⟩ := two listed a w hs (fun i hi => hprev i (by omega)) hph
      have hpj : p = j := by
        have g1 : ¬ j < p := fun h => by have := (h3 j hjs).2 h; rw [hlj] at this; cases this
        rcases Nat.lt_or_ge p j with g2 | g2
        · have := (h3 p (by omega)).1 (hprev p g2); omega
        · omega
      subst hpj
      have hdrop : ops.toList.drop p = ops[p] :: ops.toList.drop (p + 1) := by
        rw [List.drop_eq_getElem_cons (by simpa using hjs)]
        simp
      rw [hdrop] at h4
      simp only [opsWp, effK_eq, eff_junk] at h4
      have hlist' : ∀ i, i < ops.size → ((listed.setIfInBounds p true).getD i false = true ↔ i < p + 1) := by
        intro i hi
        rw [getD_set]
        split
        · rename_i h; rw [h.1]; simp
        · rename_i h
          rw [h3 i hi]
          have : i ≠ p := fun e => h ⟨e, by omega⟩
          omega
      rcases guard_yes h5.tmp h4 with ⟨hw, h4⟩ | ⟨hw, h4⟩
      · rw [if_pos hw]
        left
        refine Done.wp (op_sound h5 (dst_lt hd ho) h4) ?_
        rintro y w' ⟨s', loc', g1, g2⟩
        exact ih _ _ _ hs' hf' hc' (.inr ⟨p + 1, s', loc', by omega, by omega, hlist', g1, g2⟩)
      · rw [if_neg (by simp [hw])]
        exact ih _ _ _ hs' hf' hc' (.inr ⟨p + 1, _, loc, by omega, by omega, hlist', h4, h5.skip _ (dst_lt hd ho)⟩)

theorem draw_sound {id : Nat} {K : St → Prop} {Q : Exit → Act → World → Prop} {bs : Array Nat} (hm : P.follows .mixedOrders = true) (hd : dstOk n ops = true) (hok : drawOk ops bs k = true)
    (hk : drawWp P T ops bs k s.c 0 ops.toList K s) (hQ : ∀ s' a' w' loc', K s' → Inv P T n w0 ch s' a' w' loc' → Q .normal a' w') (h : Inv P T n w0 ch s a w loc) : (Code.region id ops true).wp P Q a w := by
  have hok' := drawOk_spec hok
  have h0 : (stL s ops k (fun _ => .val (.tup [])) fun x => Nat.blt x 0) = s := by
    have : ∀ x, owner ops k (fun x => Nat.blt x 0) x = none := fun x => owner_none.2 fun i _ hl => by simp [blt_eq] at hl
    unfold stL
    simp only [this]
  obtain ⟨E, _, h2, h3⟩ := draw_steps (s0 := s) hok'.uniq hok'.le k 0 (fun _ => .val (.tup [])) (by omega) (by rw [h0]; simpa using hk)
  refine wp_region_any hm (draw_any hok' hd (fun i hi => h2 i (Nat.zero_le _) hi) h3 hQ _ _ _ _ (by simp) ?_ ?_ (.inl ⟨loc, ?_, ?_⟩))
  · unfold unlisted
    have := List.countP_le_length (p := fun i => !(Array.replicate ops.size false).getD i false) (l := List.range ops.size)
    simpa using this
  · intro j i hj hi hl
    simp [Array.getD_eq_getD_getElem?, hj] at hl
  · intro i hl
    rw [Array.getD_eq_getD_getElem?, Array.getElem?_replicate] at hl
    split at hl <;> simp at hl
  · have : stL s ops k E (fun i => (Array.replicate ops.size false).getD i false) = s := by
      have : ∀ x, owner ops k (fun i => (Array.replicate ops.size false).getD i false) x = none := fun x => owner_none.2 fun i _ hl => by
        rw [Array.getD_eq_getD_getElem?, Array.getElem?_replicate] at hl
        split at hl <;> simp at hl
      unfold stL
      simp only [this]
    rw [this]
    exact h.drew

/-- Whatever the first state stands for, the second stands for, too. -/
def Sim (s s2 : St) : Prop := ∀ (P : Program) (T : Types) (n : Nat) (w0 : World) (ch : Nat → Prop) (a : Act) (w : World) (loc : Loc), Inv P T n w0 ch s a w loc → ∃ loc', Inv P T n w0 ch s2 a w loc'

theorem Sim.refl (s : St) : Sim s s := fun _ _ _ _ _ _ _ loc h => ⟨loc, h⟩

/-- THE WEAKEST PRECONDITION OF CODE. -/
def wp (P : Program) (T : Types) : Code → (Ex → St → Prop) → St → Prop
  | .skip, Q, s => Q .normal s
  | .region _ ops false, Q, s => opsWp P T ops ops.toList (Q .normal) s
  | .region _ ops true, Q, s => drawWp P T ops (befs ops) (quietCount ops.toList) s.c 0 ops.toList (Q .normal) s
  | .seq a b, Q, s => wp P T a (Ex.seq (wp P T b Q) Q) s
  | .cond c x y, Q, s => (match s.ev c with
    | .v (.bool b) => (match b with | true => wp P T x Q s | false => wp P T y Q s)
    | _ => False)
  | .block id c, Q, s => wp P T c (Ex.block id Q) s
  | .loop c, Q, s => ∃ I : Nat → St → Prop, (∃ k s0, Sim s s0 ∧ I k s0) ∧ ∀ k s, I k s → wp P T c (Ex.seq (fun s' => ∃ k' s2, k' < k ∧ Sim s' s2 ∧ I k' s2) Q) s
  | .exit id, Q, s => Q (.exit id) s
  | .ret, Q, s => Q .ret s
  | _, _, _ => False

def exOf : Exit → Option Ex
  | .normal => some .normal
  | .exit id => some (.exit id)
  | .ret => some .ret
  | _ => none

/-- CODE. -/
theorem wp_sound (hm : P.follows .mixedOrders = true) : ∀ (c : Code), codeOk n c = true → ∀ (Q : Ex → St → Prop) (s : St) (a : Act) (w : World) (loc : Loc) (R : Exit → Act → World → Prop),
    wp P T c Q s → Inv P T n w0 ch s a w loc → (∀ e x s' a' w' loc', exOf e = some x → Q x s' → Inv P T n w0 ch s' a' w' loc' → R e a' w') → c.wp P R a w := by
  intro c
  induction c with
  | skip => intro hcd Q s a w loc R h hi hR; exact wp_skip (hR _ _ _ _ _ _ rfl h hi)
  | region id ops draw =>
    intro hcd Q s a w loc R hk hi hR
    simp only [codeOk, Bool.and_eq_true] at hcd
    obtain ⟨hd, hok⟩ := hcd
    cases draw with
    | false =>
      simp only [wp] at hk
      refine wp_region ?_
      rw [List.range_eq_range']
      exact ops_sound hd (fun s' a' w' loc' hk hi => hR _ _ _ _ _ _ rfl hk hi) ops.size 0 s a w loc (by omega) (by simpa using hk) hi
    | true =>
      simp only [Bool.not_true, Bool.false_or] at hok
      simp only [wp] at hk
      exact draw_sound hm hd hok hk (fun s' a' w' loc' hk hi => hR _ _ _ _ _ _ rfl hk hi) hi
  | seq x y ihx ihy =>
    intro hcd Q s a w loc R h hi hR
    simp only [codeOk, Bool.and_eq_true] at hcd
    refine wp_seq (ihx hcd.1 _ s a w loc _ h hi ?_)
    intro e ex s' a' w' loc' he hq hi'
    cases e with
    | normal => cases he; exact ihy hcd.2 _ _ _ _ _ _ hq hi' hR
    | exit id => cases he; exact hR _ _ _ _ _ _ rfl hq hi'
    | ret => cases he; exact hR _ _ _ _ _ _ rfl hq hi'
    | _ => cases he
  | cond c x y ihx ihy =>
    intro hcd Q s a w loc R h hi hR
    simp only [codeOk, Bool.and_eq_true] at hcd
    simp only [wp] at h
    have hc := hi.ev c
    split at h
    · rename_i b hb
      rw [hb] at hc
      simp only [Rep] at hc
      refine wp_cond hc.1 ?_
      cases b
      · exact ihy hcd.2 _ _ _ _ _ _ h hi hR
      · exact ihx hcd.1 _ _ _ _ _ _ h hi hR
    · exact h.elim
  | block id c ih =>
    intro hcd Q s a w loc R h hi hR
    simp only [codeOk] at hcd
    refine wp_block (ih hcd _ s a w loc _ h hi ?_)
    intro e ex s' a' w' loc' he hq hi'
    cases e with
    | normal => cases he; exact hR _ _ _ _ _ _ rfl hq hi'
    | exit id' =>
      cases he
      simp only [Ex.block] at hq
      simp only [Exit.inBlock]
      by_cases hid : id' = id
      · have : (id' == id) = true := by simpa using hid
        rw [this] at hq
        simp only [hid, if_true]
        exact hR _ _ _ _ _ _ rfl hq hi'
      · have : (id' == id) = false := by simpa using hid
        rw [this] at hq
        simp only [hid, if_false]
        exact hR _ _ _ _ _ _ rfl hq hi'
    | ret => cases he; exact hR _ _ _ _ _ _ rfl hq hi'
    | _ => cases he
  | loop c ih =>
    intro hcd Q s a w loc R h hi hR
    simp only [codeOk] at hcd
    obtain ⟨I, ⟨k, s0, hsim, hk⟩, hround⟩ := h
    obtain ⟨loc0, hi⟩ := hsim _ _ _ _ _ _ _ _ hi
    refine wp_loop_ghost (fun k a w => ∃ s loc, I k s ∧ Inv P T n w0 ch s a w loc) k ⟨s0, loc0, hk, hi⟩ ?_
    rintro k a w ⟨s, loc, hI, hi⟩
    refine ih hcd _ s a w loc _ (hround k s hI) hi ?_
    intro e ex s' a' w' loc' he hq hi'
    cases e with
    | normal =>
      cases he
      obtain ⟨k', s2, hk', hsim', hI'⟩ := hq
      obtain ⟨loc2, hi2⟩ := hsim' _ _ _ _ _ _ _ _ hi'
      exact ⟨k', hk', s2, loc2, hI', hi2⟩
    | exit id => cases he; exact hR _ _ _ _ _ _ rfl hq hi'
    | ret => cases he; exact hR _ _ _ _ _ _ rfl hq hi'
    | _ => cases he
  | exit id => intro hcd Q s a w loc R h hi hR; exact wp_exit (hR _ _ _ _ _ _ rfl h hi)
  | ret => intro hcd Q s a w loc R h hi hR; exact wp_ret (hR _ _ _ _ _ _ rfl h hi)
  | _ => intro hcd Q s a w loc R h hi hR; exact h.elim

end
end Go.V
