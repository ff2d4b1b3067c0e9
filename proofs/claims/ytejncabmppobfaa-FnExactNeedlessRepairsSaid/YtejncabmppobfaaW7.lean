import Derived.Test.YtejncabmppobfaaW6
import Derived.Deep.LoopGhost
/- The abstract states are sound, last part: code, and a whole function: a contract from the weakest precondition of the body. -/
set_option linter.unusedVariables false
set_option linter.unusedSimpArgs false
set_option linter.unusedSectionVars false
namespace Go.V
variable [Globs]

section
variable {P : Program} {T : Types} {n lo : Nat} {w0 w : World} {l0 : Loc} {s : St} {a : Act} {loc : Loc} {ops : Array Oper} {k : Nat}

theorem Inv.hide (h : Inv P T n w0 lo l0 s a w loc) (b : Nat → Bool) (c0 : Nat → Nat) : Ctx P T w lo loc (s.hide b c0) a where
  types := h.types
  ev x := by
    have := h.ev x
    have e : (s.hide b c0).ev x = s.ev x := ev_congr fun _ _ => rfl
    rw [e]; exact this
  mem id c hc := by
    simp only [St.hide] at hc
    cases hh : (b id.1 && Nat.ble (c0 id.1) id.2.1) <;> simp only [hh, cond_true, cond_false] at hc
    · exact h.mem id c hc
    · cases hc
  le := Nat.le_trans h.low.1 h.same.size
  range id b k he := (h.range id b k he).2
  glob := h.glob
  cnt := h.cnt

theorem Inv.drew (h : Inv P T n w0 lo l0 s a w loc) : Inv P T n w0 lo l0 s a w.drew loc := by
  have hb : RowKit.Below w.heap.size w w.drew := (RowKit.Below.refl _ _).drew
  have hext : Ext lo lo w loc w.drew loc := ext_below hb fun id b k he => (h.range id b k he).2
  exact ⟨h.types, h.low, h.solo, h.size, h.small, h.defers, h.same.below hb, fun i => Rep.ext hext _ _ (h.tmp i), fun id c hc => by
    obtain ⟨l, xs, g1, g2⟩ := h.mem id c hc
    exact ⟨l, xs, g1, g2.below hext hb⟩, h.cnt, h.range, h.live, h.lent, h.inj, h.glob.ext hext⟩

theorem mem_ready {listed : Array Bool} (hs : listed.size = ops.size) {i : Nat} : i ∈ Region.ready .any ops listed ↔ i < ops.size ∧ listed.getD i false = false ∧ ∀ e ∈ depsAt ops i, listed.getD e false = true := by
  unfold Region.ready
  rw [List.mem_filter]
  constructor
  · rintro ⟨h1, h2⟩
    have hi : i < ops.size := by simpa using h1
    have ho : ops[i]? = some ops[i] := by simp [hi]
    rw [ho] at h2
    simp only [Bool.and_eq_true, Bool.not_eq_true', Option.map_some, Option.getD_some] at h2
    refine ⟨hi, ?_, ?_⟩
    · have := h2.1
      rw [Array.getD_eq_getD_getElem?] at this ⊢
      have hl : i < listed.size := by omega
      simpa [hl] using this
    · intro e he
      unfold depsAt depsOf at he
      rw [ho] at he
      simp only [List.mem_map, List.mem_filter] at he
      obtain ⟨ed, ⟨hed, hb⟩, rfl⟩ := he
      have := (Array.all_eq_true'.1 h2.2) ed (by simpa using hed)
      simpa [hb] using this
  · rintro ⟨hi, h1, h2⟩
    refine ⟨by simpa using hi, ?_⟩
    have ho : ops[i]? = some ops[i] := by simp [hi]
    rw [ho]
    simp only [Bool.and_eq_true, Bool.not_eq_true', Option.map_some, Option.getD_some]
    refine ⟨?_, ?_⟩
    · rw [Array.getD_eq_getD_getElem?] at h1 ⊢
      have hl : i < listed.size := by omega
      simpa [hl] using h1
    · rw [Array.all_eq_true']
      intro ed hed
      cases hb : Region.binds .any ed
      · rfl
      · simp only [Bool.not_true, Bool.false_or]
        refine h2 _ ?_
        unfold depsAt depsOf
        rw [ho]
        simp only [List.mem_map, List.mem_filter]
        exact ⟨ed, ⟨by simpa using hed, hb⟩, rfl⟩

theorem getD_set {listed : Array Bool} {i j : Nat} : (listed.setIfInBounds i true).getD j false = (if j = i ∧ i < listed.size then true else listed.getD j false) := by
  simp only [Array.getD_eq_getD_getElem?, Array.getElem?_setIfInBounds]
  by_cases h : i = j
  · subst h
    by_cases h2 : i < listed.size <;> simp [h2]
  · simp [h, Ne.symm h]

def unlisted (ops : Array Oper) (listed : Array Bool) : Nat := (List.range ops.size).countP fun i => !listed.getD i false

theorem count_step {listed : Array Bool} (hs : listed.size = ops.size) {i : Nat} (hi : i < ops.size) (hl : listed.getD i false = false) : unlisted ops (listed.setIfInBounds i true) + 1 = unlisted ops listed := by
  unfold unlisted
  have : ∀ (l : List Nat), l.Nodup → ((i ∈ l → l.countP (fun j => !(listed.setIfInBounds i true).getD j false) + 1 = l.countP (fun j => !listed.getD j false)) ∧
      (i ∉ l → l.countP (fun j => !(listed.setIfInBounds i true).getD j false) = l.countP (fun j => !listed.getD j false))) := by
    intro l
    induction l with
    | nil => intro _; simp
    | cons x l ih =>
      intro hn
      rw [List.nodup_cons] at hn
      obtain ⟨h1, h2⟩ := ih hn.2
      simp only [List.countP_cons, getD_set]
      constructor
      · intro hm
        by_cases hx : x = i
        · subst hx
          have h3 := h2 hn.1
          simp only [getD_set] at h3
          simp only [hs, hi, and_self, if_true, hl, Bool.not_true, Bool.not_false, Bool.false_eq_true, if_false, Nat.add_zero]
          rw [← h3]
          simp only [hs, hi]
        · have hm' : i ∈ l := by
            rcases List.mem_cons.1 hm with h | h
            · exact absurd h.symm hx
            · exact h
          have := h1 hm'
          simp only [getD_set] at this
          simp only [hx, false_and, if_false]
          omega
      · intro hm
        have hx : x ≠ i := fun e => hm (by simp [e])
        have hm' : i ∉ l := fun e => hm (by simp [e])
        have := h2 hm'
        simp only [getD_set] at this
        simp only [hx, false_and, if_false]
        omega
  exact (this _ List.nodup_range).1 (by simpa using hi)

theorem all_listed {listed : Array Bool} (h : unlisted ops listed = 0) : ∀ i, i < ops.size → listed.getD i false = true := by
  intro i hi
  unfold unlisted at h
  have := List.countP_eq_zero.1 h i (by simpa using hi)
  simpa using this

/-- The slots of what is still to come among the first k. -/
def miss (ops : Array Oper) (k : Nat) (listed : Array Bool) (x : Nat) : Bool := (List.range k).any fun i => !listed.getD i false && (dstAt ops i == some x)
theorem miss_iff {listed : Array Bool} {x : Nat} : miss ops k listed x = true ↔ ∃ i, i < k ∧ listed.getD i false = false ∧ dstAt ops i = some x := by
  unfold miss
  rw [List.any_eq_true]
  constructor
  · rintro ⟨i, hi, h⟩
    simp only [Bool.and_eq_true, Bool.not_eq_true', beq_iff_eq] at h
    exact ⟨i, by simpa using hi, h.1, h.2⟩
  · rintro ⟨i, hi, h1, h2⟩
    exact ⟨i, by simpa using hi, by simp [h1, h2]⟩
theorem miss_false {listed : Array Bool} {x : Nat} : miss ops k listed x = false ↔ ∀ i, i < k → dstAt ops i = some x → listed.getD i false = true := by
  rw [← Bool.not_eq_true, miss_iff]
  constructor
  · intro h i hi hd
    cases hl : listed.getD i false with
    | true => rfl
    | false => exact (h ⟨i, hi, hl, hd⟩).elim
  · rintro h ⟨i, hi, hl, hd⟩
    rw [h i hi hd] at hl; cases hl
theorem forget_none {s : St} {M : Nat → Bool} (h : ∀ x, M x = false) : s.forget M = s := by
  unfold St.forget
  simp only [h, cond_false]

theorem stL_late {s0 : St} {E : Nat → Eff} {listed : Array Bool} (hu : Uniq ops k) (hval : ∀ i, i < k → listed.getD i false = false → ∃ d, E i = .val d) :
    (stL s0 ops k E fun x => Nat.blt x k).forget (miss ops k listed) = (stL s0 ops k E fun i => listed.getD i false).forget (miss ops k listed) := by
  have same : ∀ x, miss ops k listed x = false → owner ops k (fun x => Nat.blt x k) x = owner ops k (fun i => listed.getD i false) x := fun x hx => owner_congr fun i hi hd => by
    rw [miss_false.1 hx i hi hd, blt_eq]; simpa using hi
  have full : ∀ x, miss ops k listed x = true → ∃ i d, owner ops k (fun x => Nat.blt x k) x = some i ∧ E i = .val d ∧ owner ops k (fun i => listed.getD i false) x = none := by
    intro x hx
    obtain ⟨i, hi, hl, hd⟩ := miss_iff.1 hx
    obtain ⟨d, he⟩ := hval i hi hl
    refine ⟨i, d, (owner_some hu).2 ⟨hi, by rw [blt_eq]; simpa using hi, hd⟩, he, owner_none.2 fun j hj hlj hdj => ?_⟩
    by_cases hij : j = i
    · rw [hij, hl] at hlj; cases hlj
    · exact hu j i x hj hi hij hdj hd
  unfold St.forget stL
  congr 1
  · funext x
    cases hx : miss ops k listed x with
    | true => rfl
    | false => simp only [cond_false, same x hx]
  · funext id
    cases hx : miss ops k listed id.1 with
    | true => obtain ⟨i, d, h1, h2, h3⟩ := full id.1 hx; simp only [h1, h2, h3]
    | false => simp only [same _ hx]
  · funext x
    cases hx : miss ops k listed x with
    | true => obtain ⟨i, d, h1, h2, h3⟩ := full x hx; simp only [h1, h2, h3]
    | false => simp only [same _ hx]

theorem ptrOf_mem {o : Oper} {x : Operand} (h : ptrOf o = some x) : x ∈ o.op.operands.toList := by
  unfold ptrOf at h
  split at h
  · rename_i t y ho; cases h; rw [ho]; simp [Op.operands]
  · rename_i t y lo hi mx ho; cases h; rw [ho]; simp [Op.operands]
  · cases h
/-- What is still to be loaded is as it was. -/
def Kept (ops : Array Oper) (k : Nat) (s0 : St) (E : Nat → Eff) (listed : Array Bool) (s : St) : Prop :=
  ∀ i p x id off, i < k → listed.getD i false = false → ops[i]? = some p → ptrOf p = some x → (stL s0 ops k E fun x => Nat.blt x k).ev x = .ptr id off → s.m id = (stL s0 ops k E fun x => Nat.blt x k).m id
theorem Kept.less {s0 : St} {E : Nat → Eff} {listed : Array Bool} {s : St} (h : Kept ops k s0 E listed s) (j : Nat) : Kept ops k s0 E (listed.setIfInBounds j true) s := by
  intro i p x id off hi hl
  rw [getD_set] at hl
  split at hl
  · cases hl
  · exact h i p x id off hi hl

/-- What is kept while the region goes on in whatever order. -/
def Phase (P : Program) (T : Types) (n : Nat) (w0 : World) (lo : Nat) (l0 : Loc) (ops : Array Oper) (k : Nat) (lds : List Operand) (s0 : St) (E : Nat → Eff) (K : St → Prop) (listed : Array Bool) (a : Act) (w : World) : Prop :=
  (∃ loc, (∀ i, listed.getD i false = true → i < k) ∧ Inv P T n w0 lo l0 (stL s0 ops k E fun i => listed.getD i false) a w loc) ∨
  (∃ p s loc, k < p ∧ p ≤ ops.size ∧ (∀ i, k ≤ i → i < ops.size → (listed.getD i false = true ↔ i < p)) ∧ finWp P T ops lds (ops.toList.drop p) K s ∧
    ((∃ i, i < k ∧ listed.getD i false = false) → ∀ x, (∀ q, k ≤ q → q < p → dstAt ops q ≠ some x) → s.t x = (stL s0 ops k E fun x => Nat.blt x k).t x) ∧
    Kept ops k s0 E listed s ∧
    Inv P T n w0 lo l0 (s.forget (miss ops k listed)) a w loc)

def Closed (ops : Array Oper) (bs : Array Nat) (listed : Array Bool) : Prop :=
  ∀ j i, j < ops.size → i < ops.size → listed.getD j false = true → (bs.getD j 0).testBit i = true → listed.getD i false = true

theorem draw_any {bs : Array Nat} {s0 : St} {E : Nat → Eff} {K : St → Prop} {Q : Exit → Act → World → Prop} (hok : DrawOk ops bs k) (hd : dstOk n ops = true)
    (hE : ∀ i, i < k → StepOk P T ops bs k s0 E i) (hfin : finWp P T ops (lateLds ops bs k 0 ops.toList) (ops.toList.drop k) K (stL s0 ops k E fun x => Nat.blt x k))
    (hap : k < ops.size → apart ops bs k (stL s0 ops k E fun x => Nat.blt x k) 0 ops.toList = true)
    (hQ : ∀ s' a' w' loc', K s' → Inv P T n w0 lo l0 s' a' w' loc' → Q .normal a' w') :
    ∀ (fuel : Nat) (listed : Array Bool) (a : Act) (w : World), listed.size = ops.size → unlisted ops listed ≤ fuel → Closed ops bs listed → Phase P T n w0 lo l0 ops k (lateLds ops bs k 0 ops.toList) s0 E K listed a w →
      wpAny P .any ops Q fuel listed a w := by
  have isVal : ∀ i, i < k → (∃ p, ops[i]? = some p ∧ isPureOp p = true) → ∃ d, E i = .val d := by
    rintro i hi ⟨p, hp, hpure⟩
    obtain ⟨o, ho, h⟩ := hE i hi
    rw [hp] at ho
    cases ho
    rcases h with ⟨_, h⟩ | ⟨_, h⟩
    · exact pure_val hpure h
    · exact ⟨_, h⟩
  -- the state at the door of the finals
  have two : ∀ (p0 : Nat) (listed : Array Bool) (a : Act) (w : World), listed.size = ops.size → (∀ i, i < k → listed.getD i false = false → ∃ o, ops[i]? = some o ∧ isPureOp o = true) → Phase P T n w0 lo l0 ops k (lateLds ops bs k 0 ops.toList) s0 E K listed a w →
      ∃ p s loc, k ≤ p ∧ p ≤ ops.size ∧ (∀ i, k ≤ i → i < ops.size → (listed.getD i false = true ↔ i < p)) ∧ finWp P T ops (lateLds ops bs k 0 ops.toList) (ops.toList.drop p) K s ∧
        ((∃ i, i < k ∧ listed.getD i false = false) → ∀ x, (∀ q, k ≤ q → q < p → dstAt ops q ≠ some x) → s.t x = (stL s0 ops k E fun x => Nat.blt x k).t x) ∧
        Kept ops k s0 E listed s ∧ Inv P T n w0 lo l0 (s.forget (miss ops k listed)) a w loc := by
    intro p0 listed a w hs hpure hph
    rcases hph with ⟨loc, h1, h2⟩ | ⟨p, s, loc, h1, h2, h3, h4, h5, h6⟩
    · refine ⟨k, _, loc, Nat.le_refl _, hok.le, fun i hk hi => ⟨h1 i, fun h => by omega⟩, hfin, fun _ x _ => rfl, fun _ _ _ _ _ _ _ _ _ _ => rfl, ?_⟩
      rw [stL_late hok.uniq fun i hi hl => isVal i hi (hpure i hi hl)]
      exact h2.forget _
    · exact ⟨p, s, loc, by omega, h2, h3, h4, h5, h6⟩
  have done : ∀ (listed : Array Bool) (a : Act) (w : World), listed.size = ops.size → (∀ i, i < ops.size → listed.getD i false = true) → Phase P T n w0 lo l0 ops k (lateLds ops bs k 0 ops.toList) s0 E K listed a w → Q .normal a w := by
    intro listed a w hs hall hph
    obtain ⟨p, s, loc, h1, h2, h3, h4, _, _, h5⟩ := two 0 listed a w hs (fun i hi hl => by rw [hall i (Nat.lt_of_lt_of_le hi hok.le)] at hl; cases hl) hph
    have hp : p = ops.size := by
      rcases Nat.lt_or_ge p ops.size with h | h
      · have := (h3 p h1 h).1 (hall p h); omega
      · omega
    subst hp
    have : ops.toList.drop ops.size = [] := List.drop_eq_nil_of_le (by simp)
    rw [this] at h4
    rw [forget_none fun x => miss_false.2 fun i hi _ => hall i (Nat.lt_of_lt_of_le hi hok.le)] at h5
    exact hQ _ _ _ _ h4 h5
  have empty : ∀ (listed : Array Bool), listed.size = ops.size → Region.ready .any ops listed = [] → ∀ i, i < ops.size → listed.getD i false = true := by
    intro listed hs hr i
    induction i using Nat.strongRecOn with
    | _ i ih =>
      intro hi
      cases hl : listed.getD i false with
      | true => rfl
      | false =>
        have : i ∈ Region.ready .any ops listed := (mem_ready hs).2 ⟨hi, hl, fun e he => by
          have := hok.deps i hi e he
          exact ih e this (by omega)⟩
        rw [hr] at this
        cases this
  intro fuel
  induction fuel with
  | zero =>
    intro listed a w hs hf hc hph
    have hall := all_listed (by omega : unlisted ops listed = 0)
    refine ⟨?_, done listed a w hs hall hph⟩
    rw [List.eq_nil_iff_forall_not_mem]
    intro i hi
    obtain ⟨h1, h2, _⟩ := (mem_ready hs).1 hi
    rw [hall i h1] at h2
    cases h2
  | succ fuel ih =>
    intro listed a w hs hf hc hph
    refine ⟨fun hr => done listed a w hs (empty listed hs hr) hph, fun j hj => ?_⟩
    obtain ⟨hjs, hlj, hdeps⟩ := (mem_ready hs).1 hj
    have hbits : ∀ i, i < ops.size → (bs.getD j 0).testBit i = true → listed.getD i false = true := by
      intro i hi hb
      obtain ⟨_, h | ⟨e, he, hej, hee⟩⟩ := hok.cert j i hjs hi hb
      · exact hdeps i h
      · exact hc e i (by omega) hi (hdeps e he) hee
    have hs' : (listed.setIfInBounds j true).size = ops.size := by simp [hs]
    have hf' : unlisted ops (listed.setIfInBounds j true) ≤ fuel := by have := count_step hs hjs hlj; omega
    have hc' : Closed ops bs (listed.setIfInBounds j true) := by
      intro j' i hj' hi hl hb
      rw [getD_set] at hl ⊢
      split
      · rfl
      · split at hl
        · rename_i h; rw [h.1] at hb; exact hbits i hi hb
        · exact hc j' i hj' hi hl hb
    have ho : ops[j]? = some ops[j] := by simp [hjs]
    have hdst : ops[j].dst = dstAt ops j := by simp [dstAt, ho]
    have tmpLooks : ∀ t, Operand.tmp t ∈ ops[j].op.operands.toList → t ∈ ops[j].looksAt ops := by
      intro t hx
      unfold Oper.looksAt
      rw [List.mem_append]
      left
      rw [List.mem_filterMap]
      exact ⟨_, hx, rfl⟩
    simp only [wpOp, ho]
    by_cases hjk : j < k
    · -- one of the first k
      obtain ⟨o, ho', hstep⟩ := hE j hjk
      rw [ho] at ho'
      cases ho'
      obtain ⟨v1, v2, v3⟩ := view_same (s0 := s0) (E := E) (L := fun i => listed.getD i false) hok hjk ho hlj (fun i hi hb => hbits i (Nat.lt_of_lt_of_le hi hok.le) hb)
      rcases hph with ⟨loc, hpre, hinv⟩ | ⟨p, s, loc, hkp, hps, hl3, hl4, hl5, hl6, hinv⟩
      · have hins : stL s0 ops k E (fun i => (listed.setIfInBounds j true).getD i false) = (stL s0 ops k E fun i => listed.getD i false).eff ops[j].dst (E j) := by
          rw [stL_insert (L := fun i => listed.getD i false) (L' := fun i => (listed.setIfInBounds j true).getD i false) (j := j) hok.uniq hjk hlj (fun i => by
            show (listed.setIfInBounds j true).getD i false = (i == j || listed.getD i false)
            rw [getD_set]
            by_cases hij : i = j
            · simp [hij, hs, hjs]
            · have : (i == j) = false := by simpa using hij
              simp [hij, this]), hdst]
        have hpre' : ∀ i, (listed.setIfInBounds j true).getD i false = true → i < k := by
          intro i hl
          rw [getD_set] at hl
          split at hl
          · rename_i h; rw [h.1]; exact hjk
          · exact hpre i hl
        have hg : guardK ops ops[j] (stL s0 ops k E fun i => listed.getD i false) (quietK P T ops[j] ((stL s0 ops k E fun i => listed.getD i false).hide (unseen ops bs k j) s0.c) (fun e => e = E j)) (E j = .val (.tup [])) := by
          apply guardK_congr v1
          apply guard_join
          rcases hstep with ⟨g1, g2⟩ | ⟨g1, g2⟩
          · refine .inl ⟨g1, quietK_congr (fun x hx => ?_) v2 v3 g2⟩
            apply ev_congr
            rintro t rfl
            exact v1 t (tmpLooks t hx)
          · exact .inr ⟨g1, g2⟩
        rcases guard_yes hinv.tmp hg with ⟨hw, hq⟩ | ⟨hw, hq⟩
        · rw [if_pos hw]
          left
          refine Done.wp (quiet_sound (hinv.hide _ _) (fun i hi => Nat.lt_of_lt_of_le (dst_lt hd ho i hi) hinv.small) hq) ?_
          rintro y w' ⟨e, rfl, heff⟩
          obtain ⟨loc', hinv'⟩ := hinv.eff (e := E j) heff (dst_lt hd ho)
          refine ih _ _ _ hs' hf' hc' (.inl ⟨loc', hpre', ?_⟩)
          rw [hins]; exact hinv'
        · rw [if_neg (by simp [hw])]
          refine ih _ _ _ hs' hf' hc' (.inl ⟨loc, hpre', ?_⟩)
          rw [hins, hq]
          have hput : (stL s0 ops k E fun i => listed.getD i false).eff ops[j].dst (.val (.tup [])) = (stL s0 ops k E fun i => listed.getD i false).put ops[j].dst (.tup []) := by
            cases ops[j].dst <;> rfl
          rw [hput]
          exact hinv.skip _ (dst_lt hd ho)
      · -- behind some of the finals
        have late : ∀ q, k ≤ q → q < p → LateOk ops k q j := by
          intro q hq1 hq2
          rcases hok.fins q j hq1 (by omega) (by omega) with h | h
          · have := hc q j (by omega) hjs ((hl3 q hq1 (by omega)).2 hq2) h
            rw [hlj] at this; cases this
          · exact h
        have lk := late k (Nat.le_refl _) hkp
        obtain ⟨_, o', p', dj, _, hp', _, hpure, hdj, _, hself, _, _⟩ := lk
        rw [ho] at hp'
        cases hp'
        have hval := isVal j hjk ⟨_, ho, hpure⟩
        obtain ⟨dv, hdv⟩ := hval
        have hdj' : dstAt ops j = some dj := by rw [← hdst]; exact hdj
        have unl : ∃ i, i < k ∧ listed.getD i false = false := ⟨j, hjk, hlj⟩
        have fullT : ∀ x, miss ops k listed x = false → (∀ q, k ≤ q → q < p → dstAt ops q ≠ some x) → (s.forget (miss ops k listed)).t x = (stL s0 ops k E fun i => listed.getD i false).t x := by
          intro x hx hq
          simp only [St.forget, hx, cond_false]
          rw [hl5 unl x hq]
          have : owner ops k (fun x => Nat.blt x k) x = owner ops k (fun i => listed.getD i false) x := owner_congr fun i hi hdi => by
            rw [miss_false.1 hx i hi hdi, blt_eq]; simpa using hi
          simp only [stL, this]
        have lookMiss : ∀ x ∈ ops[j].looksAt ops, miss ops k listed x = false := fun x hx => miss_false.2 fun i hi hdi => by
          by_cases hij : i = j
          · subst hij
            rw [hdj'] at hdi
            cases hdi
            exact (hself hx).elim
          · exact hbits i (Nat.lt_of_lt_of_le hi hok.le) (hok.sees j _ i x hjk ho hi hij hdi hx)
        have lateVals : ∀ i, i < k → listed.getD i false = false → ∃ d, E i = .val d := fun i hi hl => by
          have lk' : LateOk ops k k i := by
            rcases hok.fins k i (Nat.le_refl _) (by omega) (by omega) with h | h
            · have := hc k i (by omega) (by omega) ((hl3 k (Nat.le_refl _) (by omega)).2 hkp) h
              rw [hl] at this; cases this
            · exact h
          obtain ⟨_, _, p2, _, _, hp2, _, hpure2, _⟩ := lk'
          exact isVal i hi ⟨p2, hp2, hpure2⟩
        have view : ∀ x ∈ ops[j].looksAt ops, (stL s0 ops k E fun x => Nat.blt x j).t x = (s.forget (miss ops k listed)).t x := by
          intro x hx
          rw [v1 x hx]
          refine (fullT x (miss_false.2 fun i hi hdi => ?_) fun q hq1 hq2 => ?_).symm
          · by_cases hij : i = j
            · subst hij
              rw [hdj'] at hdi
              cases hdi
              exact (hself hx).elim
            · exact hbits i (Nat.lt_of_lt_of_le hi hok.le) (hok.sees j _ i x hjk ho hi hij hdi hx)
          · obtain ⟨_, oq, pq, dq, hoq, hpq, _, _, _, _, _, _, hlast⟩ := late q hq1 hq2
            rw [ho] at hpq
            cases hpq
            intro hdq
            have : oq.dst = some x := by simpa [dstAt, hoq] using hdq
            exact hlast x this hx
        have hg : guardK ops ops[j] (s.forget (miss ops k listed)) (quietK P T ops[j] (s.forget (miss ops k listed)) (fun e => e = E j)) (E j = .val (.tup [])) := by
          apply guardK_congr view
          apply guard_join
          rcases hstep with ⟨g1, g2⟩ | ⟨g1, g2⟩
          · refine .inl ⟨g1, pure_congr hinv.types hpure (fun x hx => ?_) (fun x id off c hop hx hc => ?_) g2⟩
            rotate_left
            · have hx' : (stL s0 ops k E fun x => Nat.blt x k).ev x = .ptr id off := by
                rw [← hx]
                have e1 : ((stL s0 ops k E fun x => Nat.blt x j).hide (unseen ops bs k j) s0.c).ev x = (stL s0 ops k E fun x => Nat.blt x j).ev x := ev_congr fun _ _ => rfl
                rw [e1]
                apply ev_congr
                rintro t rfl
                have ht : t ∈ ops[j].looksAt ops := tmpLooks t (ptrOf_mem hop)
                have hmt := lookMiss t ht
                rw [v1 t ht]
                have : owner ops k (fun x => Nat.blt x k) t = owner ops k (fun i => listed.getD i false) t := owner_congr fun i hi hdi => by
                  rw [miss_false.1 hmt i hi hdi, blt_eq]; simpa using hi
                simp only [stL, this]
              have hm := hl6 j _ x id off hjk hlj ho hop hx'
              show s.m id = some c
              rw [hm]
              have e2 : (stL s0 ops k E fun x => Nat.blt x k).m = (stL s0 ops k E fun i => listed.getD i false).m :=
                (congrArg St.m (stL_late (s0 := s0) (listed := listed) hok.uniq lateVals) : ((stL s0 ops k E fun x => Nat.blt x k).forget (miss ops k listed)).m = ((stL s0 ops k E fun i => listed.getD i false).forget (miss ops k listed)).m)
              rw [e2]
              have e3 := congrFun v2 id
              rw [hc] at e3
              simp only [St.hide] at e3
              cases hh : (unseen ops bs k j id.1 && Nat.ble (s0.c id.1) id.2.1) <;> simp only [hh, cond_true, cond_false] at e3
              · exact e3.symm
              · cases e3
            have e1 : ((stL s0 ops k E fun x => Nat.blt x j).hide (unseen ops bs k j) s0.c).ev x = (stL s0 ops k E fun x => Nat.blt x j).ev x := ev_congr fun _ _ => rfl
            rw [e1]
            apply ev_congr
            rintro t rfl
            exact view t (tmpLooks t hx)
          · exact .inr ⟨g1, g2⟩
        have hmiss : ∀ x, miss ops k (listed.setIfInBounds j true) x = (miss ops k listed x && !(x == dj)) := by
          intro x
          by_cases hxd : x = dj
          · subst hxd
            have : miss ops k (listed.setIfInBounds j true) x = false := miss_false.2 fun i hi hdi => by
              rw [getD_set]
              by_cases hij : j = i
              · rw [if_pos ⟨hij.symm, by omega⟩]
              · exact (hok.uniq j i x hjk hi hij hdj' hdi).elim
            rw [this]; simp
          · have hx : (x == dj) = false := by simpa using hxd
            rw [hx, Bool.not_false, Bool.and_true, Bool.eq_iff_iff, miss_iff, miss_iff]
            constructor
            · rintro ⟨i, hi, hl, hdi⟩
              rw [getD_set] at hl
              split at hl
              · cases hl
              · exact ⟨i, hi, hl, hdi⟩
            · rintro ⟨i, hi, hl, hdi⟩
              refine ⟨i, hi, ?_, hdi⟩
              rw [getD_set, if_neg]
              · exact hl
              · rintro ⟨rfl, _⟩
                rw [hdj'] at hdi
                cases hdi
                exact hxd rfl
        have hsdj : s.t dj = dv := by
          rw [hl5 unl dj fun q hq1 hq2 hdq => by
            obtain ⟨_, oq, pq, dq, hoq, hpq, _, _, hdpq, _, _, hne, _⟩ := late q hq1 hq2
            rw [ho] at hpq
            cases hpq
            rw [hdj] at hdpq
            cases hdpq
            exact hne (by simpa [dstAt, hoq] using hdq)]
          have : owner ops k (fun x => Nat.blt x k) dj = some j := (owner_some hok.uniq).2 ⟨hjk, by rw [blt_eq]; simpa using hjk, hdj'⟩
          simp only [stL, this, hdv, effD]
        have hset : (s.forget (miss ops k listed)).eff ops[j].dst (E j) = s.forget (miss ops k (listed.setIfInBounds j true)) := by
          rw [hdj, hdv]
          simp only [St.eff, St.forget]
          congr 1
          funext x
          rw [upd_eq, hmiss]
          by_cases hxd : x = dj
          · subst hxd; simp [hsdj]
          · have hx : (x == dj) = false := by simpa using hxd
            simp [hxd, hx]
        have hl3' : ∀ i, k ≤ i → i < ops.size → ((listed.setIfInBounds j true).getD i false = true ↔ i < p) := by
          intro i hi1 hi2
          rw [getD_set, if_neg (by omega)]
          exact hl3 i hi1 hi2
        have hph' : ∀ (a' : Act) (w' : World) (loc' : Loc), Inv P T n w0 lo l0 (s.forget (miss ops k (listed.setIfInBounds j true))) a' w' loc' → Phase P T n w0 lo l0 ops k (lateLds ops bs k 0 ops.toList) s0 E K (listed.setIfInBounds j true) a' w' :=
          fun a' w' loc' h => .inr ⟨p, s, loc', hkp, hps, hl3', hl4, fun _ => hl5 unl, hl6.less j, h⟩
        rcases guard_yes hinv.tmp hg with ⟨hw, hq⟩ | ⟨hw, hq⟩
        · rw [if_pos hw]
          left
          refine Done.wp (quiet_sound hinv.ctx (fun i hi => Nat.lt_of_lt_of_le (dst_lt hd ho i hi) hinv.small) hq) ?_
          rintro y w' ⟨e, rfl, heff⟩
          obtain ⟨loc', hinv'⟩ := hinv.eff (e := E j) heff (dst_lt hd ho)
          rw [hset] at hinv'
          exact ih _ _ _ hs' hf' hc' (hph' _ _ _ hinv')
        · rw [if_neg (by simp [hw])]
          refine ih _ _ _ hs' hf' hc' (hph' _ _ loc ?_)
          rw [← hset, hq, eff_junk]
          exact hinv.skip _ (dst_lt hd ho)
    · -- one of the others, in its turn
      have late : ∀ i, i < k → listed.getD i false = false → LateOk ops k j i := by
        intro i hi hl
        rcases hok.fins j i (by omega) hjs (by omega) with h | h
        · rw [hbits i (Nat.lt_of_lt_of_le hi hok.le) h] at hl; cases hl
        · exact h
      have hprev : ∀ i, k ≤ i → i < j → listed.getD i false = true := fun i hk hi => by
        rcases hok.fins j i (by omega) hjs hi with h | h
        · exact hbits i (by omega) h
        · have := h.lt; omega
      obtain ⟨p, s, loc, h1, h2, h3, h4, h4t, h4m, h5⟩ := two j listed a w hs (fun i hi hl => by
        obtain ⟨_, o, p, d, _, hp, _, hpure, _⟩ := late i hi hl
        exact ⟨p, hp, hpure⟩) hph
      have hpj : p = j := by
        have g1 : ¬ j < p := fun h => by have := (h3 j (by omega) hjs).2 h; rw [hlj] at this; cases this
        rcases Nat.lt_or_ge p j with g2 | g2
        · have := (h3 p h1 (by omega)).1 (hprev p h1 g2); omega
        · omega
      subst hpj
      have hdrop : ops.toList.drop p = ops[p] :: ops.toList.drop (p + 1) := by
        rw [List.drop_eq_getElem_cons (by simpa using hjs)]
        simp
      rw [hdrop] at h4
      simp only [finWp, effK_eq, eff_junk] at h4
      have hlist' : ∀ i, k ≤ i → i < ops.size → ((listed.setIfInBounds p true).getD i false = true ↔ i < p + 1) := by
        intro i hk hi
        rw [getD_set]
        split
        · rename_i h; rw [h.1]; simp
        · rename_i h
          rw [h3 i hk hi]
          have : i ≠ p := fun e => h ⟨e, by omega⟩
          omega
      have hsame : miss ops k (listed.setIfInBounds p true) = miss ops k listed := by
        funext x
        rw [Bool.eq_iff_iff, miss_iff, miss_iff]
        constructor <;> rintro ⟨i, hi, hl, hdi⟩ <;> refine ⟨i, hi, ?_, hdi⟩
        · rw [getD_set, if_neg (by omega)] at hl; exact hl
        · rw [getD_set, if_neg (by omega)]; exact hl
      have hlooks : ∀ x ∈ ops[p].looksAt ops, miss ops k listed x = false := fun x hx => miss_false.2 fun i hi hdi => by
        cases hl : listed.getD i false with
        | true => rfl
        | false =>
          obtain ⟨_, o, q, d, ho', hq, _, _, hdq, hno, _⟩ := late i hi hl
          rw [ho] at ho'
          cases ho'
          have : q.dst = some x := by simpa [dstAt, hq] using hdi
          rw [this] at hdq
          cases hdq
          exact (hno hx).elim
      have hdstM : ∀ x, ops[p].dst = some x → miss ops k listed x = false := fun x hx => miss_false.2 fun i hi hdi => by
        cases hl : listed.getD i false with
        | true => rfl
        | false =>
          obtain ⟨_, o, q, d, ho', hq, _, _, hdq, _, _, hne, _⟩ := late i hi hl
          rw [ho] at ho'
          cases ho'
          have : q.dst = some x := by simpa [dstAt, hq] using hdi
          rw [this] at hdq
          cases hdq
          exact (hne hx).elim
      have hgS : ∀ x ∈ ops[p].looksAt ops, s.t x = (s.forget (miss ops k listed)).t x := fun x hx => by
        simp only [St.forget, hlooks x hx, cond_false]
      have h4 := guardK_congr hgS h4
      have unl' : (∃ i, i < k ∧ (listed.setIfInBounds p true).getD i false = false) → ∃ i, i < k ∧ listed.getD i false = false := by
        rintro ⟨i, hi, hl⟩
        rw [getD_set, if_neg (by omega)] at hl
        exact ⟨i, hi, hl⟩
      have keepT : ∀ s1 : St, ((∃ i, i < k ∧ listed.getD i false = false) → ∀ x, ops[p].dst ≠ some x → s1.t x = s.t x) →
          (∃ i, i < k ∧ (listed.setIfInBounds p true).getD i false = false) → ∀ x, (∀ q, k ≤ q → q < p + 1 → dstAt ops q ≠ some x) → s1.t x = (stL s0 ops k E fun x => Nat.blt x k).t x := by
        intro s1 hs1 hu x hx
        rw [hs1 (unl' hu) x (by rw [hdst]; exact hx p h1 (by omega))]
        exact h4t (unl' hu) x fun q hq1 hq2 => hx q hq1 (by omega)
      rcases guard_yes h5.tmp h4 with ⟨hw, h4⟩ | ⟨hw, h4⟩
      · rw [if_pos hw]
        left
        have h4 : opWp P T ops[p] s fun s1 => (isNew ops[p] = true → ∀ x ∈ lateLds ops bs k 0 ops.toList, ∀ id off, s.ev x = .ptr id off → s1.m id = s.m id) ∧ finWp P T ops (lateLds ops bs k 0 ops.toList) (ops.toList.drop (p + 1)) K s1 := by
          cases hmid : isNew ops[p] with
          | true =>
            rw [hmid, cond_true] at h4
            simpa [keepK_spec] using h4
          | false =>
            rw [hmid, cond_false] at h4
            simpa using h4
        have hop : opWp P T ops[p] (s.forget (miss ops k listed)) fun s2 => ∃ s1, ((isNew ops[p] = true → ∀ x ∈ lateLds ops bs k 0 ops.toList, ∀ id off, s.ev x = .ptr id off → s1.m id = s.m id) ∧ finWp P T ops (lateLds ops bs k 0 ops.toList) (ops.toList.drop (p + 1)) K s1) ∧ s2 = s1.forget (miss ops k listed) ∧ ((∃ i, i < k ∧ listed.getD i false = false) → (∀ x, ops[p].dst ≠ some x → s1.t x = s.t x) ∧ ∀ id, isNew ops[p] = false → (∀ t a x off, ops[p].op = .store t a x → s.ev a ≠ .ptr id off) → s1.m id = s.m id) := by
          by_cases hu : ∃ i, i < k ∧ listed.getD i false = false
          · obtain ⟨i, hi, hl⟩ := hu
            obtain ⟨_, o, q, d, ho', hq, hst, _⟩ := late i hi hl
            rw [ho] at ho'
            cases ho'
            have := fin_forget (M := miss ops k listed) hst (fun t ht => hlooks t (tmpLooks t ht)) hdstM h4
            refine fin_mono hst (fun s2 h => ?_) this
            obtain ⟨s1, g1, g2, g3⟩ := h
            exact ⟨s1, g1, g2, fun _ => g3⟩
          · have hno : ∀ x, miss ops k listed x = false := fun x => miss_false.2 fun i hi _ => by
              cases hl : listed.getD i false with
              | true => rfl
              | false => exact (hu ⟨i, hi, hl⟩).elim
            have e : ∀ s' : St, s'.forget (miss ops k listed) = s' := fun s' => forget_none hno
            have hK : (fun s2 => ∃ s1, ((isNew ops[p] = true → ∀ x ∈ lateLds ops bs k 0 ops.toList, ∀ id off, s.ev x = .ptr id off → s1.m id = s.m id) ∧ finWp P T ops (lateLds ops bs k 0 ops.toList) (ops.toList.drop (p + 1)) K s1) ∧ s2 = s1.forget (miss ops k listed) ∧ ((∃ i, i < k ∧ listed.getD i false = false) → (∀ x, ops[p].dst ≠ some x → s1.t x = s.t x) ∧ ∀ id, isNew ops[p] = false → (∀ t a x off, ops[p].op = .store t a x → s.ev a ≠ .ptr id off) → s1.m id = s.m id)) = fun s1 => (isNew ops[p] = true → ∀ x ∈ lateLds ops bs k 0 ops.toList, ∀ id off, s.ev x = .ptr id off → s1.m id = s.m id) ∧ finWp P T ops (lateLds ops bs k 0 ops.toList) (ops.toList.drop (p + 1)) K s1 := by
              funext s2
              simp only [e, eq_iff_iff]
              exact ⟨by rintro ⟨s1, g1, rfl, _⟩; exact g1, fun g => ⟨s2, g, rfl, fun h => (hu h).elim⟩⟩
            rw [hK, e]
            exact h4
        refine Done.wp (op_sound h5 (dst_lt hd ho) hop) ?_
        rintro y w' ⟨s', loc', ⟨s1, ⟨gm, g1⟩, rfl, g2⟩, g3⟩
        refine ih _ _ _ hs' hf' hc' (.inr ⟨p + 1, s1, loc', by omega, by omega, hlist', g1, keepT s1 (fun hu => (g2 hu).1), ?_, by rw [hsame]; exact g3⟩)
        intro i q x id off hi hl hq hqo hx
        have hl' := hl
        rw [getD_set, if_neg (by omega)] at hl'
        have hbit : (bs.getD p 0).testBit i = false := by
          cases hb : (bs.getD p 0).testBit i with
          | false => rfl
          | true => rw [hbits i (Nat.lt_of_lt_of_le hi hok.le) hb] at hl'; cases hl'
        have keep : s1.m id = s.m id := by
          cases hmid : isNew ops[p] with
          | true =>
            obtain ⟨his, hiq⟩ := Array.getElem?_eq_some_iff.1 hq
            have hmem := lateLds_mem (ops := ops) (bs := bs) (k := k) ops.toList 0 i x p ops[p] (by simpa using his) (by omega) (by simpa [hiq] using hqo) h1 ho hmid (by rw [Nat.zero_add]; exact hbit)
            refine gm hmid x hmem id off ?_
            rw [← hx]
            apply ev_congr
            rintro t rfl
            refine h4t ⟨i, hi, hl'⟩ t fun q' hq1 hq2 hdq => ?_
            have lk : LateOk ops k q' i := by
              rcases hok.fins q' i hq1 (by omega) (by omega) with h | h
              · have := hc q' i (by omega) his ((h3 q' hq1 (by omega)).2 hq2) h
                rw [hl'] at this; cases this
              · exact h
            obtain ⟨_, oq, pq, dq, hoq, hpq, _, _, _, _, _, _, hlast⟩ := lk
            rw [hq] at hpq
            cases hpq
            refine hlast t (by simpa [dstAt, hoq] using hdq) ?_
            unfold Oper.looksAt
            rw [List.mem_append]
            left
            rw [List.mem_filterMap]
            exact ⟨_, ptrOf_mem hqo, rfl⟩
          | false =>
            refine (g2 ⟨i, hi, hl'⟩).2 id hmid ?_
            intro t' a y off' hst ha
            rcases apart_spec (hap (by omega)) hi h1 hq hqo ho hst with hb | ⟨hsep, r, rfl, hr⟩
            · rw [hbit] at hb; cases hb
            · have : s.t r = (stL s0 ops k E fun x => Nat.blt x k).t r := h4t ⟨i, hi, hl'⟩ r fun q' hq1 _ => hr q' hq1
              have ha' : (stL s0 ops k E fun x => Nat.blt x k).ev (.tmp r) = .ptr id off' := by
                show (stL s0 ops k E fun x => Nat.blt x k).t r = _
                rw [← this]; exact ha
              exact sepD_spec hsep hx ha' rfl
        rw [keep]
        exact h4m i q x id off hi hl' hq hqo hx
      · rw [if_neg (by simp [hw])]
        refine ih _ _ _ hs' hf' hc' (.inr ⟨p + 1, _, loc, by omega, by omega, hlist', h4, keepT _ (fun _ x hx => ?_), ?_, ?_⟩)
        · rw [← eff_junk]
          cases hq : ops[p].dst with
          | none => rfl
          | some i =>
            simp only [St.eff]
            rw [upd_eq, if_neg]
            rintro rfl
            exact hx hq
        · intro i q x id off hi hl hq hqo hx
          rw [getD_set, if_neg (by omega)] at hl
          have e1 : (s.put ops[p].dst (.tup [])).m id = s.m id := by cases ops[p].dst <;> rfl
          rw [e1]
          exact h4m i q x id off hi hl hq hqo hx
        · rw [hsame, ← eff_junk, ← forget_put hdstM, eff_junk]
          exact h5.skip _ (dst_lt hd ho)

theorem draw_any0 {K : St → Prop} {Q : Exit → Act → World → Prop} {bs : Array Nat} (hm : P.follows .mixedOrders = true) (hd : dstOk n ops = true) (hok : drawOk ops bs k = true)
    (hk : drawWp P T ops bs k s.c 0 ops.toList K s) (hQ : ∀ s' a' w' loc', K s' → Inv P T n w0 lo l0 s' a' w' loc' → Q .normal a' w') (h : Inv P T n w0 lo l0 s a w loc) : wpAny P .any ops Q ops.size (Array.replicate ops.size false) a { w with drawn := w.drawn + 1 } := by
  have hok' := drawOk_spec hok
  have h0 : (stL s ops k (fun _ => .val (.tup [])) fun x => Nat.blt x 0) = s := by
    have : ∀ x, owner ops k (fun x => Nat.blt x 0) x = none := fun x => owner_none.2 fun i _ hl => by simp [blt_eq] at hl
    unfold stL
    simp only [this]
  obtain ⟨E, _, h2, h3, h4⟩ := draw_steps (s0 := s) hok'.uniq hok'.le k 0 (fun _ => .val (.tup [])) (by omega) (by rw [h0]; simpa using hk)
  refine draw_any hok' hd (fun i hi => h2 i (Nat.zero_le _) hi) h3 h4 hQ _ _ _ _ (by simp) ?_ ?_ (.inl ⟨loc, ?_, ?_⟩)
  · unfold unlisted
    have := List.countP_le_length (p := fun i => !(Array.replicate ops.size false).getD i false) (l := List.range ops.size)
    simpa using this
  · intro j i hj hi hl
    simp [Array.getD_eq_getD_getElem?, hj] at hl
  · intro i hl
    rw [Array.getD_eq_getD_getElem?, Array.getElem?_replicate] at hl
    split at hl <;> simp at hl
  · have : stL s ops k E (fun i => (Array.replicate ops.size false).getD i false) = s := by
      have : ∀ x, owner ops k (fun i => (Array.replicate ops.size false).getD i false) x = none := fun x => owner_none.2 fun i _ hl => by
        rw [Array.getD_eq_getD_getElem?, Array.getElem?_replicate] at hl
        split at hl <;> simp at hl
      unfold stL
      simp only [this]
    rw [this]
    exact h.drew
/-! ### A region whose operations are told in another order -/
theorem finWp_nil : ∀ (l : List Oper) (K : St → Prop) (s : St), finWp P T ops [] l K s = opsWp P T ops l K s
  | [], K, s => rfl
  | o :: r, K, s => by
    have e : finWp P T ops [] r K = opsWp P T ops r K := funext fun s => finWp_nil r K s
    simp only [finWp, opsWp, keepK, e, Bool.cond_self]
theorem lateLds_zero {bs : Array Nat} {i : Nat} {l : List Oper} : lateLds ops bs 0 i l = [] := by
  cases l <;> simp [lateLds, blt_eq]
theorem early_perm {bs : Array Nat} : (early ops bs).Perm (List.range ops.size) := List.filter_append_perm _ _
theorem early_mem {bs : Array Nat} {i : Nat} : i ∈ early ops bs ↔ i < ops.size := by rw [early_perm.mem_iff]; simp
theorem early_len {bs : Array Nat} : (early ops bs).length = ops.size := by rw [early_perm.length_eq]; simp
theorem early_nodup {bs : Array Nat} : (early ops bs).Nodup := early_perm.nodup_iff.2 List.nodup_range
theorem pickOps_get {l : List Nat} : ∀ (r : List Nat), (∀ i ∈ r, i < ops.size) → ∀ q : Nat, (pickOps ops l r)[q]? = (r[q]?).bind fun i => (ops[i]?).map (reOp l)
  | [], _, q => by simp [pickOps]
  | i :: r, h, q => by
    have hi : i < ops.size := h i (by simp)
    have ho : ops[i]? = some ops[i] := by simp [hi]
    simp only [pickOps, ho]
    cases q with
    | zero => simp [ho]
    | succ q => simpa using pickOps_get r (fun j hj => h j (by simp [hj])) q
theorem pickOps_len {l : List Nat} : ∀ (r : List Nat), (∀ i ∈ r, i < ops.size) → (pickOps ops l r).length = r.length
  | [], _ => rfl
  | i :: r, h => by
    have hi : i < ops.size := h i (by simp)
    have ho : ops[i]? = some ops[i] := by simp [hi]
    simp only [pickOps, ho, List.length_cons, pickOps_len r fun j hj => h j (by simp [hj])]
theorem sort_size : (sortOps ops).size = ops.size := by
  show (pickOps ops _ _).length = _
  rw [pickOps_len _ fun i hi => early_mem.1 hi, early_len]
def sPi (ops : Array Oper) (i : Nat) : Nat := rePi (early ops (befs ops)) i
theorem sPi_lt {i : Nat} (h : i < ops.size) : sPi ops i < ops.size := by
  have := List.idxOf_lt_length_of_mem (early_mem (bs := befs ops).2 h)
  rw [early_len] at this
  exact this
theorem sPi_of {i : Nat} (h : sPi ops i < ops.size) : i < ops.size := by
  have h1 : (early ops (befs ops)).idxOf i < (early ops (befs ops)).length := by rw [early_len]; exact h
  exact early_mem.1 (List.idxOf_lt_length_iff.1 h1)
theorem sPi_inj {i j : Nat} (hi : i < ops.size) (hj : j < ops.size) (h : sPi ops i = sPi ops j) : i = j := by
  have h1 := List.getElem_idxOf (List.idxOf_lt_length_of_mem (early_mem (bs := befs ops).2 hi))
  have h2 := List.getElem_idxOf (List.idxOf_lt_length_of_mem (early_mem (bs := befs ops).2 hj))
  unfold sPi rePi at h
  simp only [h] at h1
  exact h1.symm.trans h2
theorem sPi_surj {q : Nat} (h : q < ops.size) : ∃ i, i < ops.size ∧ sPi ops i = q := by
  have hl : q < (early ops (befs ops)).length := by rw [early_len]; exact h
  refine ⟨(early ops (befs ops))[q], early_mem.1 (List.getElem_mem hl), ?_⟩
  exact early_nodup.idxOf_getElem q hl
theorem sort_get {i : Nat} (h : i < ops.size) : (sortOps ops)[sPi ops i]? = (ops[i]?).map (reOp (early ops (befs ops))) := by
  rw [← Array.getElem?_toList]
  show (pickOps ops (early ops (befs ops)) (early ops (befs ops)))[sPi ops i]? = _
  rw [pickOps_get _ fun i hi => early_mem.1 hi]
  have hm := List.idxOf_lt_length_of_mem (early_mem (bs := befs ops).2 h)
  have : (early ops (befs ops))[sPi ops i]? = some i := by
    show (early ops (befs ops))[List.idxOf i (early ops (befs ops))]? = some i
    rw [List.getElem?_eq_getElem hm]
    exact congrArg some (List.getElem_idxOf hm)
  rw [this]; rfl
theorem deps_re {l : List Nat} {o : Oper} : depsOf (reOp l o) = (depsOf o).map (rePi l) := by
  unfold depsOf reOp
  simp only [List.filter_map, List.map_map]
  rfl
theorem deps_sort {i : Nat} (h : i < ops.size) : depsAt (sortOps ops) (sPi ops i) = (depsAt ops i).map (sPi ops) := by
  have ho : ops[i]? = some ops[i] := by simp [h]
  unfold depsAt
  rw [sort_get h, ho]
  exact deps_re
theorem ready_sort {listed listed' : Array Bool} (hs : listed.size = ops.size) (hs' : listed'.size = ops.size) (hdeps : ∀ i, i < ops.size → ∀ e ∈ depsAt ops i, e < ops.size) (hl : ∀ i, i < ops.size → listed'.getD (sPi ops i) false = listed.getD i false) {i : Nat} (hi : i < ops.size) :
    sPi ops i ∈ Region.ready .any (sortOps ops) listed' ↔ i ∈ Region.ready .any ops listed := by
  rw [mem_ready (by rw [hs', sort_size]), mem_ready hs, sort_size, deps_sort hi, hl i hi]
  constructor
  · rintro ⟨_, h2, h3⟩
    exact ⟨hi, h2, fun e he => by rw [← hl e (hdeps i hi e he)]; exact h3 _ (List.mem_map_of_mem he)⟩
  · rintro ⟨_, h2, h3⟩
    refine ⟨sPi_lt hi, h2, fun e he => ?_⟩
    obtain ⟨e0, he0, rfl⟩ := List.mem_map.1 he
    rw [hl e0 (hdeps i hi e0 he0)]; exact h3 e0 he0
theorem wpOp_sort {Q : Exit → Act → World → Prop} (hg : guardsOk ops = true) {i : Nat} (hi : i < ops.size) {K : Act → World → Prop} {a : Act} {w : World} (h : wpOp P (sortOps ops) Q (sPi ops i) K a w) : wpOp P ops Q i K a w := by
  have ho : ops[i]? = some ops[i] := by simp [hi]
  unfold wpOp at h ⊢
  rw [sort_get hi, ho] at h
  rw [ho]
  simp only [Option.map_some] at h ⊢
  generalize hoi : ops[i] = o at h ⊢
  have hw : Region.wanted (reOp (early ops (befs ops)) o) (yielded (sortOps ops) a.tmps) = Region.wanted o (yielded ops a.tmps) := by
    unfold Region.wanted reOp
    cases hgd : o.guard with
    | none => rfl
    | some jb =>
      obtain ⟨j, b⟩ := jb
      have hj : j < ops.size := by
        have := List.all_eq_true.1 hg o (by rw [← hoi]; simp)
        rw [hgd] at this
        simpa [blt_eq] using this
      dsimp only
      have hoj : ops[j]? = some ops[j] := by simp [hj]
      have : yielded (sortOps ops) a.tmps (rePi (early ops (befs ops)) j) = yielded ops a.tmps j := by
        unfold yielded
        have := sort_get (ops := ops) hj
        unfold sPi at this
        rw [this, hoj]
        rfl
      rw [this]
  rw [hw] at h
  have he : execOp a.eval (reOp (early ops (befs ops)) o) = execOp a.eval o := by cases o; rfl
  have h1 : ∀ K, (reOp (early ops (befs ops)) o).wp P a w K Q = o.wp P a w K Q := fun K => by
    unfold Oper.wp
    rw [he]
    cases o; rfl
  have h2 : (reOp (early ops (befs ops)) o).asks P a w = o.asks P a w := by unfold Oper.asks; rw [he]
  have h3 : (reOp (early ops (befs ops)) o).dst = o.dst := rfl
  rw [h1, h2, h3] at h
  exact h
theorem any_sort {Q : Exit → Act → World → Prop} (hg : guardsOk ops = true) (hdeps : ∀ i, i < ops.size → ∀ e ∈ depsAt ops i, e < ops.size) : ∀ (fuel : Nat) (listed listed' : Array Bool) (a : Act) (w : World), listed.size = ops.size → listed'.size = ops.size →
    (∀ i, i < ops.size → listed'.getD (sPi ops i) false = listed.getD i false) → wpAny P .any (sortOps ops) Q fuel listed' a w → wpAny P .any ops Q fuel listed a w := by
  have rnil : ∀ (listed listed' : Array Bool), listed.size = ops.size → listed'.size = ops.size → (∀ i, i < ops.size → listed'.getD (sPi ops i) false = listed.getD i false) →
      (Region.ready .any (sortOps ops) listed' = [] ↔ Region.ready .any ops listed = []) := by
    intro listed listed' hs hs' hl
    rw [List.eq_nil_iff_forall_not_mem, List.eq_nil_iff_forall_not_mem]
    constructor
    · intro h i hi
      have hlt := ((mem_ready hs).1 hi).1
      exact h _ ((ready_sort hs hs' hdeps hl hlt).2 hi)
    · intro h q hq
      have hlt : q < ops.size := by have := ((mem_ready (by rw [hs', sort_size])).1 hq).1; rwa [sort_size] at this
      obtain ⟨i, hi, rfl⟩ := sPi_surj hlt
      exact h i ((ready_sort hs hs' hdeps hl hi).1 hq)
  intro fuel
  induction fuel with
  | zero => intro listed listed' a w hs hs' hl h; exact ⟨(rnil _ _ hs hs' hl).1 h.1, h.2⟩
  | succ fuel ih =>
    intro listed listed' a w hs hs' hl h
    refine ⟨fun hr => h.1 ((rnil _ _ hs hs' hl).2 hr), fun i hi => ?_⟩
    have hlt := ((mem_ready hs).1 hi).1
    refine wpOp_mono (fun a' w' h' => ?_) (wpOp_sort hg hlt (h.2 _ ((ready_sort hs hs' hdeps hl hlt).2 hi)))
    refine ih _ (listed'.setIfInBounds (sPi ops i) true) a' w' (by simp [hs]) (by simp [hs']) (fun j hj => ?_) h'
    rw [getD_set, getD_set, hs, hs', hl j hj]
    by_cases hji : j = i
    · subst hji; simp [hlt, sPi_lt hlt]
    · have : ¬ sPi ops j = sPi ops i := fun e => hji (sPi_inj hj hlt e)
      simp [hji, this]
theorem deps_small {bs : Array Nat} (hok : drawOk (sortOps ops) bs k = true) : ∀ i, i < ops.size → ∀ e ∈ depsAt ops i, e < ops.size := by
  intro i hi e he
  have h1 := (drawOk_spec hok).deps (sPi ops i) (by rw [sort_size]; exact sPi_lt hi) (sPi ops e) (by rw [deps_sort hi]; exact List.mem_map_of_mem he)
  exact sPi_of (Nat.lt_trans h1 (sPi_lt hi))
theorem sort_sound {id : Nat} {K : St → Prop} {Q : Exit → Act → World → Prop} {bs : Array Nat} (hm : P.follows .mixedOrders = true) (hg : guardsOk ops = true) (hd : dstOk n (sortOps ops) = true) (hok : drawOk (sortOps ops) bs k = true)
    (hk : drawWp P T (sortOps ops) bs k s.c 0 (sortOps ops).toList K s) (hQ : ∀ s' a' w' loc', K s' → Inv P T n w0 lo l0 s' a' w' loc' → Q .normal a' w') (h : Inv P T n w0 lo l0 s a w loc) : (Code.region id ops true).wp P Q a w := by
  have := draw_any0 hm hd hok hk hQ h
  rw [sort_size] at this
  exact wp_region_any hm (any_sort hg (deps_small hok) _ _ _ _ _ (by simp) (by simp) (fun i hi => by simp [Array.getD_eq_getD_getElem?, hi, sPi_lt hi]) this)
theorem draw_sound {id : Nat} {K : St → Prop} {Q : Exit → Act → World → Prop} {bs : Array Nat} (hm : P.follows .mixedOrders = true) (hd : dstOk n ops = true) (hok : drawOk ops bs k = true)
    (hk : drawWp P T ops bs k s.c 0 ops.toList K s) (hQ : ∀ s' a' w' loc', K s' → Inv P T n w0 lo l0 s' a' w' loc' → Q .normal a' w') (h : Inv P T n w0 lo l0 s a w loc) : (Code.region id ops true).wp P Q a w :=
  wp_region_any hm (draw_any0 hm hd hok hk hQ h)

theorem rep_one_eq : ∀ n : Nat, rep n [false] = List.replicate n false
  | 0 => rfl
  | n + 1 => by simp [rep, List.replicate_succ, rep_one_eq n]
theorem allL_all {α : Type} : ∀ {l : List α} {p : α → Prop}, allL l p → l ≠ [] ∧ ∀ x ∈ l, p x
  | [], p, h => h.elim
  | [x], p, h => ⟨by simp, fun y hy => by simp at hy; subst hy; exact h⟩
  | x :: y :: r, p, h => by
    obtain ⟨h1, h2⟩ := h
    refine ⟨by simp, fun z hz => ?_⟩
    rcases List.mem_cons.1 hz with rfl | hz
    · exact h1
    · exact (allL_all h2).2 z hz
theorem all_sound {K : St → Prop} {Q : Exit → Act → World → Prop} (hd : dstOk n ops = true) (hQ : ∀ s' a' w' loc', K s' → Inv P T n w0 lo l0 s' a' w' loc' → Q .normal a' w') :
    ∀ (fuel : Nat) (listed : Array Bool) (ll : List Bool) (s : St) (a : Act) (w : World) (loc : Loc), listed.size = ops.size → ll = listed.toList → unlisted ops listed = fuel → allWp P T ops fuel ll K s → Inv P T n w0 lo l0 s a w loc → wpAny P .any ops Q fuel listed a w := by
  have rd : ∀ (listed : Array Bool) (ll : List Bool), listed.size = ops.size → ll = listed.toList → ∀ i, i ∈ readyL ops ll ↔ i ∈ Region.ready .any ops listed := by
    intro listed ll hs hl i
    subst hl
    have hg : ∀ e, listed.toList.getD e false = listed.getD e false := fun e => by
      rw [List.getD_eq_getElem?_getD, Array.getD_eq_getD_getElem?, Array.getElem?_toList]
    rw [mem_ready hs]
    unfold readyL
    simp only [List.mem_filter, List.mem_range, Bool.and_eq_true, Bool.not_eq_true', List.all_eq_true, hg]
  intro fuel
  induction fuel with
  | zero =>
    intro listed ll s a w loc hs hl hf hk hi
    have hall := all_listed hf
    refine ⟨List.eq_nil_iff_forall_not_mem.2 fun i hi => ?_, hQ _ _ _ _ hk hi⟩
    have := (mem_ready hs).1 hi
    rw [hall i this.1] at this
    cases this.2.1
  | succ fuel ih =>
    intro listed ll s a w loc hs hl hf hk hi
    obtain ⟨hne, hall⟩ := allL_all hk
    refine ⟨fun he => ?_, fun i hr => ?_⟩
    · exact absurd (List.eq_nil_iff_forall_not_mem.2 fun i hi => by rw [rd _ _ hs hl, he] at hi; cases hi) hne
    · have hk := hall i ((rd _ _ hs hl i).2 hr)
      obtain ⟨hlt, hli, _⟩ := (mem_ready hs).1 hr
      have ho : ops[i]? = some ops[i] := by simp [hlt]
      rw [ho] at hk
      simp only [effK_eq, eff_junk] at hk
      have next : ∀ s' a' w' loc', allWp P T ops fuel (ll.set i true) K s' → Inv P T n w0 lo l0 s' a' w' loc' → wpAny P .any ops Q fuel (listed.setIfInBounds i true) a' w' := by
        intro s' a' w' loc' h1 h2
        refine ih _ (ll.set i true) s' a' w' loc' (by simp [hs]) (by rw [hl]; simp) ?_ h1 h2
        have := count_step hs hlt hli
        omega
      unfold wpOp
      rw [ho]
      rcases guard_yes hi.tmp hk with ⟨hw, hk⟩ | ⟨hw, hk⟩
      · simp only [hw, if_true]
        left
        refine Done.wp (op_sound hi (dst_lt hd ho) hk) ?_
        rintro y w' ⟨s', loc', h1, h2⟩
        exact next _ _ _ _ h1 h2
      · simp only [hw]
        rw [if_neg (by simp)]
        exact next _ _ _ _ hk (hi.skip _ (dst_lt hd ho))
/-- Whatever the first state stands for, the second stands for, too. -/
def Sim (s s2 : St) : Prop := ∀ (P : Program) (T : Types) (n : Nat) (w0 : World) (lo : Nat) (l0 : Loc) (a : Act) (w : World) (loc : Loc), Inv P T n w0 lo l0 s a w loc → ∃ loc', Inv P T n w0 lo l0 s2 a w loc'

theorem Sim.refl (s : St) : Sim s s := fun _ _ _ _ _ _ _ _ loc h => ⟨loc, h⟩

/-- THE WEAKEST PRECONDITION OF CODE. -/
def wp (P : Program) (T : Types) : Code → (Ex → St → Prop) → St → Prop
  | .skip, Q, s => Q .normal s
  | .region _ ops false, Q, s => opsWp P T ops ops.toList (Q .normal) s
  | .region _ ops true, Q, s => bif hasEntry ops then allWp P T ops ops.size (rep ops.size [false]) (Q .normal) s else bif seqOk ops then opsWp P T ops ops.toList (Q .normal) s else bif needSort ops then drawWp P T (sortOps ops) (befs (sortOps ops)) (quietCount (sortOps ops).toList) s.c 0 (sortOps ops).toList (Q .normal) s else drawWp P T ops (befs ops) (quietCount ops.toList) s.c 0 ops.toList (Q .normal) s
  | .seq a b, Q, s => wp P T a (Ex.seq (wp P T b Q) Q) s
  | .cond c x y, Q, s => (match s.ev c with
    | .v (.bool b) => (match b with | true => wp P T x Q s | false => wp P T y Q s)
    | _ => False)
  | .block id c, Q, s => wp P T c (Ex.block id Q) s
  | .loop c, Q, s => ∃ I : Nat → St → Prop, (∃ k s0, Sim s s0 ∧ I k s0) ∧ ∀ k s, I k s → wp P T c (Ex.seq (fun s' => ∃ k' s2, k' < k ∧ Sim s' s2 ∧ I k' s2) Q) s
  | .exit id, Q, s => Q (.exit id) s
  | .ret, Q, s => Q .ret s
  | _, _, _ => False

def exOf : Exit → Option Ex
  | .normal => some .normal
  | .exit id => some (.exit id)
  | .ret => some .ret
  | _ => none

/-- CODE. -/
theorem wp_sound (hm : P.follows .mixedOrders = true) : ∀ (c : Code), codeOk n c = true → ∀ (Q : Ex → St → Prop) (s : St) (a : Act) (w : World) (loc : Loc) (R : Exit → Act → World → Prop),
    wp P T c Q s → Inv P T n w0 lo l0 s a w loc → (∀ e x s' a' w' loc', exOf e = some x → Q x s' → Inv P T n w0 lo l0 s' a' w' loc' → R e a' w') → c.wp P R a w := by
  intro c
  induction c with
  | skip => intro hcd Q s a w loc R h hi hR; exact wp_skip (hR _ _ _ _ _ _ rfl h hi)
  | region id ops draw =>
    intro hcd Q s a w loc R hk hi hR
    simp only [codeOk, Bool.and_eq_true] at hcd
    obtain ⟨hd, hok⟩ := hcd
    cases draw with
    | false =>
      simp only [wp] at hk
      refine wp_region ?_
      rw [List.range_eq_range']
      exact ops_sound hd (fun s' a' w' loc' hk hi => hR _ _ _ _ _ _ rfl hk hi) ops.size 0 s a w loc (by omega) (by simpa using hk) hi
    | true =>
      simp only [Bool.not_true, Bool.false_or] at hok
      simp only [wp] at hk
      cases hen : hasEntry ops <;> simp only [hen, cond_true, cond_false, Bool.true_or, Bool.false_or] at hok hk
      rotate_left
      · refine wp_region_any hm (all_sound hd (fun s' a' w' loc' hk hi => hR _ _ _ _ _ _ rfl hk hi) _ _ _ s _ _ loc (by simp) ?_ ?_ hk hi.drew)
        · rw [Array.toList_replicate]; exact rep_one_eq _
        · unfold unlisted
          rw [List.countP_eq_length.2 (fun i hi => ?_), List.length_range]
          have hi : i < ops.size := by simpa using hi
          simp [Array.getD_eq_getD_getElem?, hi]
      cases hsq : seqOk ops <;> simp only [hsq, cond_true, cond_false, Bool.true_or, Bool.false_or] at hok hk
      · cases hns : needSort ops <;> simp only [hns, cond_true, cond_false] at hok hk
        · exact draw_sound hm hd hok hk (fun s' a' w' loc' hk hi => hR _ _ _ _ _ _ rfl hk hi) hi
        · rw [Bool.and_eq_true, Bool.and_eq_true] at hok
          exact sort_sound hm hok.1 hok.2.1 hok.2.2 hk (fun s' a' w' loc' hk hi => hR _ _ _ _ _ _ rfl hk hi) hi
      · have h0 : drawOk ops (befs ops) 0 = true := by
          unfold seqOk at hsq
          simp only [Bool.and_eq_true] at hsq
          exact hsq.2
        refine draw_sound hm hd h0 (K := Q .normal) ?_ (fun s' a' w' loc' hk hi => hR _ _ _ _ _ _ rfl hk hi) hi
        have conv : ∀ l : List Oper, drawWp P T ops (befs ops) 0 s.c 0 l (Q .normal) s = opsWp P T ops l (Q .normal) s := by
          intro l
          cases l with
          | nil => rfl
          | cons o r => simp [drawWp, blt_eq, apart_zero, asrt, lateLds_zero, finWp_nil]
        rw [conv]; exact hk
  | seq x y ihx ihy =>
    intro hcd Q s a w loc R h hi hR
    simp only [codeOk, Bool.and_eq_true] at hcd
    refine wp_seq (ihx hcd.1 _ s a w loc _ h hi ?_)
    intro e ex s' a' w' loc' he hq hi'
    cases e with
    | normal => cases he; exact ihy hcd.2 _ _ _ _ _ _ hq hi' hR
    | exit id => cases he; exact hR _ _ _ _ _ _ rfl hq hi'
    | ret => cases he; exact hR _ _ _ _ _ _ rfl hq hi'
    | _ => cases he
  | cond c x y ihx ihy =>
    intro hcd Q s a w loc R h hi hR
    simp only [codeOk, Bool.and_eq_true] at hcd
    simp only [wp] at h
    have hc := hi.ev c
    split at h
    · rename_i b hb
      rw [hb] at hc
      simp only [Rep] at hc
      refine wp_cond hc.1 ?_
      cases b
      · exact ihy hcd.2 _ _ _ _ _ _ h hi hR
      · exact ihx hcd.1 _ _ _ _ _ _ h hi hR
    · exact h.elim
  | block id c ih =>
    intro hcd Q s a w loc R h hi hR
    simp only [codeOk] at hcd
    refine wp_block (ih hcd _ s a w loc _ h hi ?_)
    intro e ex s' a' w' loc' he hq hi'
    cases e with
    | normal => cases he; exact hR _ _ _ _ _ _ rfl hq hi'
    | exit id' =>
      cases he
      simp only [Ex.block] at hq
      simp only [Exit.inBlock]
      by_cases hid : id' = id
      · have : (id' == id) = true := by simpa using hid
        rw [this] at hq
        simp only [hid, if_true]
        exact hR _ _ _ _ _ _ rfl hq hi'
      · have : (id' == id) = false := by simpa using hid
        rw [this] at hq
        simp only [hid, if_false]
        exact hR _ _ _ _ _ _ rfl hq hi'
    | ret => cases he; exact hR _ _ _ _ _ _ rfl hq hi'
    | _ => cases he
  | loop c ih =>
    intro hcd Q s a w loc R h hi hR
    simp only [codeOk] at hcd
    obtain ⟨I, ⟨k, s0, hsim, hk⟩, hround⟩ := h
    obtain ⟨loc0, hi⟩ := hsim _ _ _ _ _ _ _ _ _ hi
    refine wp_loop_ghost (fun k a w => ∃ s loc, I k s ∧ Inv P T n w0 lo l0 s a w loc) k ⟨s0, loc0, hk, hi⟩ ?_
    rintro k a w ⟨s, loc, hI, hi⟩
    refine ih hcd _ s a w loc _ (hround k s hI) hi ?_
    intro e ex s' a' w' loc' he hq hi'
    cases e with
    | normal =>
      cases he
      obtain ⟨k', s2, hk', hsim', hI'⟩ := hq
      obtain ⟨loc2, hi2⟩ := hsim' _ _ _ _ _ _ _ _ _ hi'
      exact ⟨k', hk', s2, loc2, hI', hi2⟩
    | exit id => cases he; exact hR _ _ _ _ _ _ rfl hq hi'
    | ret => cases he; exact hR _ _ _ _ _ _ rfl hq hi'
    | _ => cases he
  | exit id => intro hcd Q s a w loc R h hi hR; exact wp_exit (hR _ _ _ _ _ _ rfl h hi)
  | ret => intro hcd Q s a w loc R h hi hR; exact wp_ret (hR _ _ _ _ _ _ rfl h hi)
  | _ => intro hcd Q s a w loc R h hi hR; exact h.elim

end
end Go.V
