import Derived.Test.YtejncabmppobfaaW4
/- The abstract states are sound, ninth part: operations in a row; a region whose order is open. -/
set_option linter.unusedVariables false
set_option linter.unusedSimpArgs false
set_option linter.unusedSectionVars false
namespace Go.V
variable [Globs]

section
variable {P : Program} {T : Types} {n bs : Nat} {w0 w : World} {l0 : Loc} {s : St} {a : Act} {loc : Loc}

theorem run_setObj {r : Nat} {o0 : Obj} (o : Obj) (hb : w.heap[r]? = some o0) (h0 : isCells o0 = false := by rfl) : (setObj r o).run P w = .ok () { w with heap := w.heap.setIfInBounds r o } := by
  cases o0 <;> first | (cases h0; done) | simp [setObj, Sem.run, hb]
theorem run_find {kt : TypeId} {ty : TypeDesc} (hk : P.underlying kt = some ty)
    (heq : ∀ (w : World) (a b a' b' : Int), ∃ r, (Op.equal kt (.agg ⟨[.int .i8 a, .int .i8 b]⟩) (.agg ⟨[.int .i8 a', .int .i8 b']⟩)).run P w = .ok r w) (a b : Int) (es : List MapEntry) (hes : ∀ e ∈ es, ∃ x y : Int, e.key = .agg ⟨[.int .i8 x, .int .i8 y]⟩) :
    ∃ r, (Instr.findKey kt (.agg ⟨[.int .i8 a, .int .i8 b]⟩) es).run P w = .ok r w := by
  have ask : ∀ (es : List MapEntry) (i : Nat), (∀ e ∈ es, ∃ x y : Int, e.key = .agg ⟨[.int .i8 x, .int .i8 y]⟩) → ∃ r, (Instr.findAsking kt (.agg ⟨[.int .i8 a, .int .i8 b]⟩) es i).run P w = .ok r w := by
    intro es
    induction es with
    | nil => intro i _; exact ⟨none, by simp [Instr.findAsking]⟩
    | cons e es ih =>
      intro i h
      obtain ⟨x, y, he⟩ := h e (by simp)
      obtain ⟨r, hr⟩ := heq w a b x y
      obtain ⟨r2, hr2⟩ := ih (i + 1) fun e he => h e (by simp [he])
      cases r
      · exact ⟨r2, by simp only [Instr.findAsking, Sem.run_bind, he, hr, Result.andThen_ok]; simpa using hr2⟩
      · exact ⟨some (i, e.val), by simp only [Instr.findAsking, Sem.run_bind, he, hr, Result.andThen_ok]; simp⟩
  simp only [Instr.findKey, Sem.run_bind, run_under hk, Result.andThen_ok]
  cases h : Instr.findNow ty (.agg ⟨[.int .i8 a, .int .i8 b]⟩) es 0 with
  | some r => exact ⟨r, by simp⟩
  | none => simpa using ask es 0 hes
theorem run_stays (old new : Value) : ∃ k' w', (Instr.keyThatStays old new).run P w = .ok k' w' ∧ (k' = old ∨ k' = new) ∧ (w' = w ∨ w' = w.drew) := by
  unfold Instr.keyThatStays
  split
  · exact ⟨new, w, by simp, .inr rfl, .inl rfl⟩
  · by_cases h1 : (Question.extern "map.whichKeyStays" 2).forced = true
    · exact ⟨new, w, by simp [h1], .inr rfl, .inl rfl⟩
    · by_cases h2 : (Question.extern "map.whichKeyStays" 2).cut (w.tape w.drawn (Question.extern "map.whichKeyStays" 2)) = 0
      · exact ⟨new, w.drew, by simp [h1, h2], .inr rfl, .inr rfl⟩
      · exact ⟨old, w.drew, by simp [h1, h2], .inl rfl, .inr rfl⟩
/-- An object of the call's own written. -/
theorem Inv.setObj (h : Inv P T n w0 bs l0 s a w loc) {id : Id} {x x' : Ob} {b k : Nat} {o0 o1 : Obj} (hc : s.m id = some (.obj x)) (hl : loc id = some (some b, k)) (hb : w.heap[b]? = some o0) (h0 : isCells o0 = false) (h1 : isCells o1 = false)
    (hk : k = 0) (m' : Id → Option D) (hm : ∀ j c, m' j = some c → (j = id ∧ c = .obj x') ∨ (j ≠ id ∧ s.m j = some c)) (ho : ORep { w with heap := w.heap.setIfInBounds b o1 } loc x' b) :
    Inv P T n w0 bs l0 { s with m := m' } a { w with heap := w.heap.setIfInBounds b o1 } loc := by
  have hlt : b < w.heap.size := (Array.getElem?_eq_some_iff.1 hb).1
  have hself : (w.heap.setIfInBounds b o1)[b]? = some o1 := by simp [hlt]
  have hoth : ∀ k, k ≠ b → (w.heap.setIfInBounds b o1)[k]? = w.heap[k]? := fun k hk => by simp [Ne.symm hk]
  have hcell : ∀ (k : Nat) c e fr, w.heap[k]? = some (.cells c e fr) → k ≠ b := by
    rintro k c e fr hk rfl
    rw [hb] at hk; cases hk; cases h0
  have hext : Ext bs bs w loc { w with heap := w.heap.setIfInBounds b o1 } loc := {
    le := Nat.le_refl _
    keep := fun _ _ h => h
    old := fun k c e fr hk hv => ⟨by show (w.heap.setIfInBounds b _)[k]? = _; rw [hoth k (hcell _ _ _ _ hk)]; exact hk, hv⟩
    own := fun id k n' c e fr hl hk => ⟨c, e, fr, by show (w.heap.setIfInBounds b _)[k]? = _; rw [hoth k (hcell _ _ _ _ hk)]; exact hk, Nat.le_refl _⟩ }
  have hsz : (w.heap.setIfInBounds b o1).size = w.heap.size := by simp
  have hlive : ∀ j c, m' j = some c → ∃ c', s.m j = some c' := by
    intro j c hj
    rcases hm j c hj with ⟨rfl, _⟩ | ⟨_, q⟩
    · exact ⟨_, hc⟩
    · exact ⟨_, q⟩
  have hown := (h.range _ _ _ hl).1 (h.live _ _ hc)
  refine ⟨h.types, h.low, h.solo, h.size, h.small, h.defers, ?_, fun i => Rep.ext hext _ _ (h.tmp i), ?_, h.cnt, ?_, ?_, h.lent, ?_, h.glob.ext hext⟩
  · refine ⟨h.same.os, h.same.tape, h.same.output, by show _ ≤ (w.heap.setIfInBounds b _).size; rw [hsz]; exact h.same.size, ?_, ?_⟩
    · intro k hk hch
      show (w.heap.setIfInBounds b _)[k]? = _
      rw [hoth k ?_]
      · exact h.same.block k hk hch
      · rintro rfl
        rcases hown with q | q
        · omega
        · exact hch q
    · intro k c e fr hk
      obtain ⟨c', e', fr', g1, g2⟩ := h.same.grow k c e fr hk
      exact ⟨c', e', fr', by show (w.heap.setIfInBounds b _)[k]? = _; rw [hoth k (hcell _ _ _ _ g1)]; exact g1, g2⟩
  · intro j c hj
    rcases hm j c hj with ⟨rfl, rfl⟩ | ⟨hne, hj'⟩
    · exact ⟨some b, [], by rw [hl, hk]; rfl, .inr ⟨x', b, rfl, rfl, rfl, ho⟩⟩
    · obtain ⟨l, xs, g1, g2⟩ := h.mem j c hj'
      have hlb : l ≠ some b := by
        rintro rfl
        exact hne (h.inj _ _ _ _ _ _ _ hj' hc g1 hl)
      refine ⟨l, xs, g1, g2.ext hext (fun g3 => ?_) fun b' o hb' ho' _ => ?_⟩
      · cases l with
        | none => exact g3
        | some k =>
          obtain ⟨kk, e, r1, r2⟩ := g3
          exact ⟨kk, e, by show (w.heap.setIfInBounds b _)[k]? = _; rw [hoth k (hcell _ _ _ _ r1)]; exact r1, r2⟩
      · subst hb'
        show (w.heap.setIfInBounds b _)[b']? = _
        rw [hoth b' (fun e => hlb (by rw [e]))]; exact ho'
  · intro id k n' hl
    obtain ⟨g1, g2⟩ := h.range _ _ _ hl
    exact ⟨g1, by show k < (w.heap.setIfInBounds b _).size; rw [hsz]; exact g2⟩
  · intro j c hj
    obtain ⟨c', hc'⟩ := hlive j c hj
    exact h.live _ _ hc'
  · intro j j' c c' b' k k' hj hj' hl1 hl2
    obtain ⟨c1, hc1⟩ := hlive j c hj
    obtain ⟨c2, hc2⟩ := hlive j' c' hj'
    exact h.inj _ _ _ _ _ _ _ hc1 hc2 hl1 hl2
theorem updI_obj {id : Id} {x' : Ob} : ∀ j c, updI s.m id (some (.obj x')) j = some c → (j = id ∧ c = .obj x') ∨ (j ≠ id ∧ s.m j = some c) := by
  intro j c hj
  rw [updI_eq] at hj
  split at hj
  · rename_i e; simp only [Option.some.injEq] at hj; exact .inl ⟨e, hj.symm⟩
  · rename_i e; exact .inr ⟨e, hj⟩
theorem heap_setObj {b : Nat} {o0 o1 : Obj} (hb : w.heap[b]? = some o0) : ({ w with heap := w.heap.setIfInBounds b o1 } : World).heap[b]? = some o1 := by
  have hlt : b < w.heap.size := (Array.getElem?_eq_some_iff.1 hb).1
  show (w.heap.setIfInBounds b o1)[b]? = _
  simp [hlt]
/-- Where a told object lies. -/
theorem Inv.objAt (h : Inv P T n w0 bs l0 s a w loc) {id : Id} {x : Ob} (hc : s.m id = some (.obj x)) : ∃ b, loc id = some (some b, 0) ∧ ORep w loc x b := by
  obtain ⟨l, xs, q1, q2⟩ := h.mem id _ hc
  rcases q2 with ⟨q2, _⟩ | ⟨x1, b, e1, rfl, rfl, q3⟩
  · simp [Rep] at q2
  · cases e1; exact ⟨b, q1, q3⟩
theorem Inv.drawn (h : Inv P T n w0 bs l0 s a w loc) : Inv P T n w0 bs l0 s a w.drew loc := by
  have hb : RowKit.Below w.heap.size w w.drew := (RowKit.Below.refl _ _).drew
  have hext : Ext bs bs w loc w.drew loc := ext_below hb fun id b k he => (h.range id b k he).2
  exact ⟨h.types, h.low, h.solo, h.size, h.small, h.defers, h.same.below hb, fun i => Rep.ext hext _ _ (h.tmp i), fun id c hc => by
    obtain ⟨l, xs, g1, g2⟩ := h.mem id c hc
    exact ⟨l, xs, g1, g2.below hext hb⟩, h.cnt, fun id b k he => h.range id b k he, h.live, h.lent, h.inj, h.glob.ext hext⟩
theorem keyEq_iff {a b : Int × Int} : keyEq a b = true ↔ b = a := by
  obtain ⟨x, y⟩ := a
  obtain ⟨x', y'⟩ := b
  simp only [keyEq, Bool.and_eq_true, beq_iff_eq, Prod.mk.injEq]
  constructor <;> rintro ⟨rfl, rfl⟩ <;> exact ⟨rfl, rfl⟩
theorem findK_get {key : Int × Int} {v : Value} : ∀ {kvs : List ((Int × Int) × Value)}, findK key kvs = some v → kvs[idxK key kvs]? = some (key, v)
  | [], h => by simp [findK] at h
  | p :: r, h => by
    simp only [findK, idxK] at h ⊢
    cases hk : keyEq key p.1 <;> simp only [hk, cond_true, cond_false] at h ⊢
    · simpa using findK_get h
    · rw [keyEq_iff] at hk
      simp only [Option.some.injEq] at h
      simp [← hk, ← h]
theorem idxK_none {key : Int × Int} : ∀ {kvs : List ((Int × Int) × Value)}, findK key kvs = none → idxK key kvs = kvs.length
  | [], h => rfl
  | p :: r, h => by
    simp only [findK, idxK] at h ⊢
    cases hk : keyEq key p.1 <;> simp only [hk, cond_true, cond_false] at h ⊢
    · simp [idxK_none h]
    · cases h
theorem setK_none {key : Int × Int} {x : Value} : ∀ {kvs : List ((Int × Int) × Value)}, findK key kvs = none → setK key x kvs = kvs ++ [(key, x)]
  | [], h => rfl
  | p :: r, h => by
    simp only [findK, setK] at h ⊢
    cases hk : keyEq key p.1 <;> simp only [hk, cond_true, cond_false] at h ⊢
    · simp [setK_none h]
    · cases h
theorem entK_none {key : Int × Int} {x : Value} : ∀ {kvs : List ((Int × Int) × Value)}, findK key kvs = none → entK key x kvs = kvs ++ [(key, x)]
  | [], h => rfl
  | p :: r, h => by
    simp only [findK, entK] at h ⊢
    cases hk : keyEq key p.1 <;> simp only [hk, cond_true, cond_false] at h ⊢
    · simp [entK_none h]
    · cases h
theorem entK_some {key : Int × Int} {x v : Value} : ∀ {kvs : List ((Int × Int) × Value)}, findK key kvs = some v → entK key x kvs = kvs
  | [], h => by simp [findK] at h
  | p :: r, h => by
    simp only [findK, entK] at h ⊢
    cases hk : keyEq key p.1 <;> simp only [hk, cond_true, cond_false] at h ⊢
    · rw [entK_some h]
theorem setK_some {key : Int × Int} {x v : Value} : ∀ {kvs : List ((Int × Int) × Value)}, findK key kvs = some v → setK key x kvs = putE (idxK key kvs) x kvs
  | [], h => by simp [findK] at h
  | p :: r, h => by
    simp only [findK, setK, idxK] at h ⊢
    cases hk : keyEq key p.1 <;> simp only [hk, cond_true, cond_false, putE] at h ⊢
    · rw [setK_some h]
theorem putE_len {x : Value} : ∀ {kvs : List ((Int × Int) × Value)} {i : Nat}, (putE i x kvs).length = kvs.length
  | [], i => by cases i <;> rfl
  | p :: r, 0 => rfl
  | p :: r, i + 1 => by simp [putE, putE_len]
theorem putE_ents {pk : Bool} {x : Value} : ∀ (kvs : List ((Int × Int) × Value)) (i j : Nat), entsF pk j (putE i x kvs) = (entsF pk j kvs).modify i fun e => { e with val := x }
  | [], i, j => by cases i <;> simp [putE, entsF]
  | p :: r, 0, j => by simp [putE, entsF]
  | p :: r, i + 1, j => by simp [putE, entsF, putE_ents r i (j + 1)]
theorem putE_mem {x : Value} {Q : (Int × Int) × Value → Prop} (hx : ∀ k v, Q (k, v) → Q (k, x)) : ∀ (kvs : List ((Int × Int) × Value)) (i : Nat), (∀ p ∈ kvs, Q p) → ∀ p ∈ putE i x kvs, Q p
  | [], i, h => by cases i <;> simp [putE]
  | p :: r, 0, h => by
    intro q hq
    simp only [putE, List.mem_cons] at hq
    rcases hq with rfl | hq
    · exact hx _ _ (h p (by simp))
    · exact h q (by simp [hq])
  | p :: r, i + 1, h => by
    intro q hq
    simp only [putE, List.mem_cons] at hq
    rcases hq with rfl | hq
    · exact h _ (by simp)
    · exact putE_mem hx r i (fun p hp => h p (by simp [hp])) q hq
theorem entsF_append {pk : Bool} : ∀ (kvs : List ((Int × Int) × Value)) (p : (Int × Int) × Value) (i : Nat), entsF pk i (kvs ++ [p]) = entsF pk i kvs ++ [⟨keyV pk p.1, p.2, i + kvs.length⟩]
  | [], p, i => by simp [entsF]
  | q :: r, p, i => by simp [entsF, entsF_append r p (i + 1)]; omega
theorem ents_push {pk : Bool} {kvs : List ((Int × Int) × Value)} {p : (Int × Int) × Value} : (ents pk kvs).push ⟨keyV pk p.1, p.2, kvs.length⟩ = ents pk (kvs ++ [p]) := by
  apply Array.ext'
  simp [ents, entsF_append]
theorem run_stays_same {v : Value} (h : Instr.sameBits 10000 v v = true) : (Instr.keyThatStays v v).run P w = .ok v w := by
  unfold Instr.keyThatStays
  rw [if_pos h]; rfl
theorem sameBits_key {pk : Bool} {k : Int × Int} : Instr.sameBits 10000 (keyV pk k) (keyV pk k) = true := by
  cases pk
  · simp [keyV, Instr.sameBits]
  · simp only [keyV, cond_true]
    unfold Instr.sameBits
    simp [Instr.sameBits]
theorem modify_same {pk : Bool} {key : Int × Int} {v : Value} {kvs : List ((Int × Int) × Value)} {i : Nat} (h : kvs[i]? = some (key, v)) (f : MapEntry → MapEntry) :
    (ents pk kvs).modify i (fun e => f { e with key := keyV pk key }) = (ents pk kvs).modify i f := by
  apply Array.ext'
  simp only [ents, List.modify_toArray]
  apply List.ext_getElem?
  intro j
  simp only [List.getElem?_modify]
  split
  · rename_i e
    subst e
    rw [entsF_get, h]; rfl
  · rfl
/-- A MAP WRITTEN. -/
theorem map_sound {o : Oper} {t : TypeId} {m k x : Operand} {K : St → Prop} (h : Inv P T n w0 bs l0 s a w loc) (hd : ∀ i, o.dst = some i → i < n) (ho : o.op = .mapUpdate t m k x) (hk : opWp P T o s K) :
    Done P o a w fun y w' => ∃ s' loc', K s' ∧ Inv P T n w0 bs l0 s' (a.put o.dst y) w' loc' := by
  simp only [opWp, ho, effK_eq, eff_junk] at hk
  have hm := h.ev m
  have hkey := h.ev k
  split at hk
  rotate_left
  · exact hk.elim
  rename_i kt0 et0 sz0 by0 z0 id hTt hme
  rw [hme] at hm
  split at hk
  · rename_i hc
    split at hk
    rotate_left
    · exact hk.elim
    rename_i ka kb hke
    obtain ⟨b, hl, es, cl, hb, hp⟩ := h.objAt hc
    simp only [Rep] at hm
    obtain ⟨b', n', r1, hmv⟩ := hm
    rw [hl] at r1
    simp only [Option.some.injEq, Prod.mk.injEq] at r1
    obtain ⟨rfl, _⟩ := r1
    rw [hke] at hkey
    simp only [Rep] at hkey
    obtain ⟨hkv, _⟩ := hkey
    obtain ⟨⟨kt, et, ty, ht, hkt, hck, heq⟩, hK⟩ := hk
    obtain ⟨r, hr⟩ := run_find (w := w) hkt heq ka kb es.toList hp
    have start : ∀ (w2 : World) (es' : Array MapEntry) (cl' : Nat), PKeys es' → (w2 = w ∨ w2 = w.drew) →
        (Instr.mapUpdate t (a.eval m) (a.eval k) (a.eval x)).run P w = .ok () { w2 with heap := w2.heap.setIfInBounds b (Obj.map es' cl') } →
        Done P o a w fun y w' => ∃ s' loc', K s' ∧ Inv P T n w0 bs l0 s' (a.put o.dst y) w' loc' := by
      intro w2 es' cl' hp' hw2 hrun
      have hi2 : Inv P T n w0 bs l0 s a w2 loc := by
        rcases hw2 with rfl | rfl
        · exact h
        · exact h.drawn
      have hb2 : w2.heap[b]? = some (Obj.map es cl) := by rcases hw2 with rfl | rfl <;> exact hb
      refine .inr (.inl ⟨_, ?_, _, loc, hK, Inv.skip (hi2.setObj (x' := .places) hc hl hb2 rfl rfl rfl s.m ?_ ⟨es', cl', heap_setObj hb2, hp'⟩) o.dst hd⟩)
      · simp [execOp, ho, hrun]
      · intro j c hj
        by_cases e : j = id
        · subst e; rw [hc] at hj; cases hj; exact .inl ⟨rfl, rfl⟩
        · exact .inr ⟨e, hj⟩
    cases r with
    | none =>
      refine start w (es.push { key := .agg ⟨[.int .i8 ka, .int .i8 kb]⟩, val := a.eval x, born := cl }) (cl + 1) ?_ (.inl rfl) ?_
      · intro e he
        simp only [Array.toList_push, List.mem_append, List.mem_singleton] at he
        rcases he with he | rfl
        · exact hp e he
        · exact ⟨ka, kb, rfl⟩
      · simp only [Instr.mapUpdate, Sem.run_bind, run_under ht, Result.andThen_ok, hmv, hkv, run_getObj hb, hck, hr, run_setObj _ hb]
    | some q =>
      obtain ⟨i, v0⟩ := q
      obtain ⟨k', w', g1, g2, g3⟩ := run_stays (P := P) (w := w) (((es[i]?).map (·.key)).getD (.agg ⟨[.int .i8 ka, .int .i8 kb]⟩)) (.agg ⟨[.int .i8 ka, .int .i8 kb]⟩)
      have hk' : ∃ x y : Int, k' = .agg ⟨[.int .i8 x, .int .i8 y]⟩ := by
        rcases g2 with rfl | rfl
        · cases he : es[i]? with
          | none => exact ⟨ka, kb, rfl⟩
          | some e =>
            have hmem : e ∈ es.toList := by
              have := Array.mem_of_getElem? he
              simpa using this
            obtain ⟨x, y, hxy⟩ := hp e hmem
            exact ⟨x, y, hxy⟩
        · exact ⟨ka, kb, rfl⟩
      have hb' : w'.heap[b]? = some (Obj.map es cl) := by rcases g3 with rfl | rfl <;> exact hb
      refine start w' (es.modify i fun e => { e with key := k', val := a.eval x }) cl ?_ g3 ?_
      · intro e he
        obtain ⟨j, hj⟩ := List.getElem?_of_mem he
        rw [Array.getElem?_toList, Array.getElem?_modify] at hj
        split at hj
        · cases he2 : es[j]? with
          | none => rw [he2] at hj; simp at hj
          | some e2 =>
            rw [he2] at hj
            simp only [Option.map_some, Option.some.injEq] at hj
            subst hj
            exact hk'
        · have : e ∈ es.toList := by
            have := Array.mem_of_getElem? hj
            simpa using this
          exact hp e this
      · simp only [Instr.mapUpdate, Sem.run_bind, run_under ht, Result.andThen_ok, hmv, hkv, run_getObj hb, hck, hr, g1, run_setObj _ hb']
  · rw [← hme] at hm
    obtain ⟨id', pk, kvs, ti, key, b, kt, et, hK, e0, hA⟩ := mapK_get h.types h.mem hk hm hkey
    have e1 : id' = id := by rw [hme] at e0; cases e0; rfl
    subst e1
    split at hK
    rotate_left
    · exact hK.elim
    rename_i xv hx
    have hxv := h.ev x
    rw [hx] at hxv
    simp only [Rep] at hxv
    obtain ⟨hxe, hxf⟩ := hxv
    obtain ⟨b', hl, _⟩ := h.objAt hA.told
    obtain ⟨nn, hl'⟩ := hA.at_
    rw [hl] at hl'
    simp only [Option.some.injEq, Prod.mk.injEq] at hl'
    obtain ⟨rfl, _⟩ := hl'
    have hf := hA.find w
    have hok' : ∀ p ∈ setK key xv kvs, (pk = false → p.1.2 = 0) ∧ Flat p.2 = true := by
      cases hfk : findK key kvs with
      | none =>
        rw [setK_none hfk]
        intro p hp
        simp only [List.mem_append, List.mem_singleton] at hp
        rcases hp with hp | rfl
        · exact hA.ok p hp
        · exact ⟨hA.k0, hxf⟩
      | some v =>
        rw [setK_some hfk]
        exact putE_mem (fun k v q => ⟨q.1, hxf⟩) kvs _ hA.ok
    have hheap : (Instr.mapUpdate t (a.eval m) (a.eval k) (a.eval x)).run P w = .ok () { w with heap := w.heap.setIfInBounds b' (.map (ents pk (setK key xv kvs)) (setK key xv kvs).length) } := by
      cases hfk : findK key kvs with
      | none =>
        rw [hfk] at hf
        rw [setK_none hfk, ← ents_push]
        simp only [Instr.mapUpdate, Sem.run_bind, run_under hA.under, Result.andThen_ok, hA.vm, hA.vk, run_getObj hA.heap, hA.check, ents] at hf ⊢
        simp only [hf, Option.map_none, Sem.run_bind, Result.andThen_ok, hxe]
        rw [run_setObj _ hA.heap]
        simp [ents]
      | some v =>
        rw [hfk] at hf
        have hget := findK_get hfk
        have hst : (Instr.keyThatStays (((ents pk kvs)[idxK key kvs]?.map (·.key)).getD (keyV pk key)) (keyV pk key)).run P w = .ok (keyV pk key) w := by
          have : ((ents pk kvs)[idxK key kvs]?.map (·.key)).getD (keyV pk key) = keyV pk key := by
            simp only [ents, List.getElem?_toArray]
            rw [entsF_get, hget]; rfl
          rw [this]
          exact run_stays_same sameBits_key
        rw [setK_some hfk, putE_len]
        have hmod : (ents pk kvs).modify (idxK key kvs) (fun e => { e with key := keyV pk key, val := xv }) = ents pk (putE (idxK key kvs) xv kvs) := by
          rw [modify_same (v := v) hget (fun e => { e with val := xv })]
          apply Array.ext'
          simp only [ents, List.modify_toArray, putE_ents]
        simp only [Instr.mapUpdate, Sem.run_bind, run_under hA.under, Result.andThen_ok, hA.vm, hA.vk, run_getObj hA.heap, hA.check]
        have hf' : (Instr.findKey kt (keyV pk key) (ents pk kvs).toList).run P w = .ok (some (idxK key kvs, v)) w := by simpa [ents] using hf
        simp only [hf', Sem.run_bind, Result.andThen_ok, hxe, hst]
        rw [run_setObj _ hA.heap, hmod]
    refine .inr (.inl ⟨_, by simp only [execOp, ho, Sem.run_bind]; rw [hheap]; rfl, _, loc, hK, Inv.skip (h.setObj (x' := .map pk (setK key xv kvs)) hA.told hl hA.heap rfl rfl rfl _ updI_obj ⟨heap_setObj hA.heap, hok'⟩) o.dst hd⟩)
/-- AN ENTRY FOUND OR MADE. -/
theorem mapEntry_sound {o : Oper} {t : TypeId} {m k : Operand} {K : St → Prop} (h : Inv P T n w0 bs l0 s a w loc) (hd : ∀ i, o.dst = some i → i < n) (ho : o.op = .mapEntry t m k) (hk : opWp P T o s K) :
    Done P o a w fun y w' => ∃ s' loc', K s' ∧ Inv P T n w0 bs l0 s' (a.put o.dst y) w' loc' := by
  simp only [opWp, ho, effK_eq] at hk
  obtain ⟨id, pk, kvs, ti, key, b, kt, et, hK, _, hA⟩ := mapK_get h.types h.mem hk (h.ev m) (h.ev k)
  obtain ⟨b', hl, _⟩ := h.objAt hA.told
  obtain ⟨nn, hl'⟩ := hA.at_
  rw [hl] at hl'
  simp only [Option.some.injEq, Prod.mk.injEq] at hl'
  obtain ⟨rfl, _⟩ := hl'
  have hf := hA.find w
  have hok' : ∀ p ∈ entK key ti.zero kvs, (pk = false → p.1.2 = 0) ∧ Flat p.2 = true := by
    cases hfk : findK key kvs with
    | none =>
      rw [entK_none hfk]
      intro p hp
      simp only [List.mem_append, List.mem_singleton] at hp
      rcases hp with hp | rfl
      · exact hA.ok p hp
      · exact ⟨hA.k0, hA.zflat⟩
    | some v => rw [entK_some hfk]; exact hA.ok
  have hrun : (Instr.mapEntry t (a.eval m) (a.eval k)).run P w = .ok (.tuple ⟨[(findK key kvs).getD ti.zero, .int .i64 (idxK key kvs)]⟩) { w with heap := w.heap.setIfInBounds b' (.map (ents pk (entK key ti.zero kvs)) (entK key ti.zero kvs).length) } := by
    cases hfk : findK key kvs with
    | none =>
      rw [hfk] at hf
      have hf' : (Instr.findKey kt (keyV pk key) (ents pk kvs).toList).run P w = .ok none w := by simpa [ents] using hf
      rw [entK_none hfk, ← ents_push, idxK_none hfk]
      simp only [Instr.mapEntry, Sem.run_bind, run_under hA.under, Result.andThen_ok, hA.vm, hA.vk, run_getObj hA.heap, hA.check, hf', hA.zero]
      rw [run_setObj _ hA.heap]
      simp [goInt]
    | some v =>
      rw [hfk] at hf
      have hget := findK_get hfk
      have hf' : (Instr.findKey kt (keyV pk key) (ents pk kvs).toList).run P w = .ok (some (idxK key kvs, v)) w := by simpa [ents] using hf
      have hst : (Instr.keyThatStays (((ents pk kvs)[idxK key kvs]?.map (·.key)).getD (keyV pk key)) (keyV pk key)).run P w = .ok (keyV pk key) w := by
        have : ((ents pk kvs)[idxK key kvs]?.map (·.key)).getD (keyV pk key) = keyV pk key := by
          simp only [ents, List.getElem?_toArray]
          rw [entsF_get, hget]; rfl
        rw [this]
        exact run_stays_same sameBits_key
      have hborn : ((ents pk kvs)[idxK key kvs]?.map (fun e => (e.born : Int))).getD 0 = (idxK key kvs : Int) := by
        simp only [ents, List.getElem?_toArray]
        rw [entsF_get, hget]; simp
      rw [entK_some hfk]
      have hmod : (ents pk kvs).modify (idxK key kvs) (fun e => { e with key := keyV pk key }) = ents pk kvs := by
        rw [modify_same (v := v) hget (fun e => e)]
        apply Array.ext'
        simp only [ents, List.modify_toArray]
        apply List.ext_getElem?
        intro j
        simp only [List.getElem?_modify]
        split <;> simp
      simp only [Instr.mapEntry, Sem.run_bind, run_under hA.under, Result.andThen_ok, hA.vm, hA.vk, run_getObj hA.heap, hA.check, hf', hst]
      rw [run_setObj _ hA.heap, hmod, hborn]
      simp [goInt]
  have hi := h.setObj hA.told hl hA.heap rfl rfl rfl _ (updI_obj (x' := .map pk (entK key ti.zero kvs))) ⟨heap_setObj hA.heap, hok'⟩
  have hfl := findK_flat (key := key) hA.zflat kvs fun p hp => (hA.ok p hp).2
  obtain ⟨loc', h3⟩ := hi.eff (y := .tuple ⟨[(findK key kvs).getD ti.zero, .int .i64 (idxK key kvs)]⟩) (e := .val (.tup [.v ((findK key kvs).getD ti.zero), .v (.int .i64 (idxK key kvs))])) (dst := o.dst)
    ⟨RowKit.Below.refl _ _, by simp only [Rep, RepL]; exact ⟨_, rfl, _, _, rfl, ⟨rfl, hfl⟩, _, _, rfl, ⟨rfl, rfl⟩, rfl⟩⟩ hd
  exact .inl ⟨_, _, by simp only [execOp, ho, Sem.run_bind]; rw [hrun]; rfl, _, loc', hK, h3⟩
/-- AN ENTRY WRITTEN. -/
theorem entryStore_sound {o : Oper} {t : TypeId} {m e x : Operand} {K : St → Prop} (h : Inv P T n w0 bs l0 s a w loc) (hd : ∀ i, o.dst = some i → i < n) (ho : o.op = .entryStore t m e x) (hk : opWp P T o s K) :
    Done P o a w fun y w' => ∃ s' loc', K s' ∧ Inv P T n w0 bs l0 s' (a.put o.dst y) w' loc' := by
  simp only [opWp, ho, effK_eq, eff_junk] at hk
  have hm := h.ev m
  have he := h.ev e
  have hx := h.ev x
  split at hk
  rotate_left
  · exact hk.elim
  rename_i kt0 et0 sz0 by0 z0 id hTt hme
  split at hk
  rotate_left
  · exact hk.elim
  rename_i pk kvs kk i xv hc hee hxe
  rw [hme] at hm
  rw [hee] at he
  rw [hxe] at hx
  simp only [Rep] at hm he hx
  obtain ⟨⟨hi0, hil⟩, hK⟩ := hk
  obtain ⟨b, hl, hb, hok⟩ := h.objAt hc
  obtain ⟨b', n', r1, hmv⟩ := hm
  rw [hl] at r1
  simp only [Option.some.injEq, Prod.mk.injEq] at r1
  obtain ⟨rfl, _⟩ := r1
  have hfind : (ents pk kvs).findIdx? (fun e => (e.born : Int) == i) = some i.toNat := by
    have : ∀ (kvs : List ((Int × Int) × Value)) (b j : Nat), j < kvs.length → (entsF pk b kvs).findIdx? (fun e => (e.born : Int) == ((b + j : Nat) : Int)) = some j := by
      intro kvs
      induction kvs with
      | nil => intro b j h; simp at h
      | cons p r ih =>
        intro b j hj
        cases j with
        | zero => simp [entsF, List.findIdx?_cons]
        | succ j =>
          have := ih (b + 1) j (by simpa using hj)
          rw [show b + 1 + j = b + (j + 1) by omega] at this
          simp only [entsF, List.findIdx?_cons]
          rw [this]
          have hne : ((b : Int) == ((b + (j + 1) : Nat) : Int)) = false := by rw [beq_eq_false_iff_ne]; omega
          simp only [hne]
          rfl
    have := this kvs 0 i.toNat hil
    rw [Nat.zero_add, Int.toNat_of_nonneg hi0] at this
    simpa [ents] using this
  have hrun : (Instr.entryStore t (a.eval m) (a.eval e) (a.eval x)).run P w = .ok () { w with heap := w.heap.setIfInBounds b (.map (ents pk (putE i.toNat xv kvs)) (putE i.toNat xv kvs).length) } := by
    have hmod : (ents pk kvs).modify i.toNat (fun e => { e with val := xv }) = ents pk (putE i.toNat xv kvs) := by
      apply Array.ext'
      simp only [ents, List.modify_toArray, putE_ents]
    simp only [Instr.entryStore, hmv, he.1, hx.1, Sem.run_bind, run_getObj hb, Result.andThen_ok, asInt, asIntOf, Sem.run_pure, hfind]
    rw [run_setObj _ hb, hmod, putE_len]
  refine .inr (.inl ⟨_, by simp only [execOp, ho, Sem.run_bind]; rw [hrun]; rfl, _, loc, hK, Inv.skip (h.setObj (x' := .map pk (putE i.toNat xv kvs)) hc hl hb rfl rfl rfl _ updI_obj ⟨heap_setObj hb, putE_mem (fun k v q => ⟨q.1, hx.2⟩) kvs _ hok⟩) o.dst hd⟩)
theorem run_mapNext {m : Nat} (hm : 0 < m) : ∃ r w', (choose (.mapNext m)).run P w = .ok r w' ∧ r < m ∧ (w' = w ∨ w' = w.drew) := by
  by_cases h1 : (Question.mapNext m).forced = true
  · exact ⟨0, w, by simp [h1], hm, .inl rfl⟩
  · exact ⟨(Question.mapNext m).cut (w.tape w.drawn (.mapNext m)), w.drew, by simp [h1], Nat.mod_lt _ hm, .inr rfl⟩
/-- A STEP OF A WALK OVER A TEXT OR A MAP. -/
theorem next_sound {o : Oper} {it : Operand} {isStr : Bool} {K : St → Prop} (h : Inv P T n w0 bs l0 s a w loc) (hd : ∀ i, o.dst = some i → i < n) (ho : o.op = .next it isStr) (hk : opWp P T o s K) :
    Done P o a w fun y w' => ∃ s' loc', K s' ∧ Inv P T n w0 bs l0 s' (a.put o.dst y) w' loc' := by
  simp only [opWp, ho, effK_eq] at hk
  have hi := h.ev it
  split at hk
  rotate_left
  · exact hk.elim
  rename_i id hie
  rw [hie] at hi
  simp only [Rep] at hi
  obtain ⟨b, nn, r1, hiv⟩ := hi
  have over : ∀ w', (w' = w ∨ w' = w.drew) → (Instr.next (a.eval it) isStr o.type).run P w = .ok (.tuple ⟨[.bool false]⟩) w' → K (s.eff o.dst (.val (.tup [.v (.bool false)]))) →
      Done P o a w fun y w' => ∃ s' loc', K s' ∧ Inv P T n w0 bs l0 s' (a.put o.dst y) w' loc' := by
    intro w' hw hrun hK
    have hinv : Inv P T n w0 bs l0 s a w' loc := by rcases hw with rfl | rfl <;> first | exact h | exact h.drawn
    obtain ⟨loc', h3⟩ := hinv.eff (y := .tuple ⟨[.bool false]⟩) (e := .val (.tup [.v (.bool false)])) (dst := o.dst)
      ⟨RowKit.Below.refl _ _, by simp only [Rep, RepL]; exact ⟨_, rfl, _, _, rfl, ⟨rfl, rfl⟩, rfl⟩⟩ hd
    exact .inl ⟨_, _, by simp only [execOp, ho, Sem.run_bind]; rw [hrun]; rfl, _, loc', hK, h3⟩
  split at hk
  · rename_i bs' pos hc
    obtain ⟨b', hl, hb⟩ := h.objAt hc
    rw [hl] at r1
    simp only [Option.some.injEq, Prod.mk.injEq] at r1
    obtain ⟨rfl, _⟩ := r1
    simp only [ORep] at hb
    by_cases hp : pos < bs'.size
    · have hK := hk.h hp
      have hrun : (Instr.next (a.eval it) true o.type).run P w = .ok (.tuple ⟨[.bool true, .int .i64 pos, .int .i32 (Utf8.decode bs' pos).1]⟩) { w with heap := w.heap.setIfInBounds b' (.stringIter bs' (pos + (Utf8.decode bs' pos).2)) } := by
        simp only [Instr.next, hiv, Sem.run_bind, run_getObj hb, Result.andThen_ok, if_pos hp]
        rw [run_setObj _ hb]
        simp [goInt]
      have hi := h.setObj (x' := .sit bs' (pos + (Utf8.decode bs' pos).2)) hc hl hb rfl rfl rfl _ updI_obj (heap_setObj hb)
      obtain ⟨loc', h3⟩ := hi.eff (y := .tuple ⟨[.bool true, .int .i64 pos, .int .i32 (Utf8.decode bs' pos).1]⟩) (e := .val (.tup [.v (.bool true), .v (.int .i64 pos), .v (.int .i32 (Utf8.decode bs' pos).1)])) (dst := o.dst)
        ⟨RowKit.Below.refl _ _, by simp only [Rep, RepL]; exact ⟨_, rfl, _, _, rfl, ⟨rfl, rfl⟩, _, _, rfl, ⟨rfl, rfl⟩, _, _, rfl, ⟨rfl, rfl⟩, rfl⟩⟩ hd
      exact .inl ⟨_, _, by simp only [execOp, ho, Sem.run_bind]; rw [hrun]; rfl, _, loc', hK, h3⟩
    · exact over w (.inl rfl) (by simp [Instr.next, hiv, run_getObj hb, hp]) (hk.h' hp)
  · rename_i mid since seen last hc
    split at hk
    rotate_left
    · exact hk.elim
    rename_i pk kvs hc2
    obtain ⟨b', hl, mb, mn, q1, hb, hlast⟩ := h.objAt hc
    obtain ⟨mb', hml, hmb, hok⟩ := h.objAt hc2
    rw [hml] at q1
    simp only [Option.some.injEq, Prod.mk.injEq] at q1
    obtain ⟨rfl, _⟩ := q1
    rw [hl] at r1
    simp only [Option.some.injEq, Prod.mk.injEq] at r1
    obtain ⟨rfl, _⟩ := r1
    have hgone : ¬ ((!(⟨seen⟩ : Array Nat).isEmpty && !(ents pk kvs).isEmpty && (ents pk kvs).all (fun e => decide (e.born ≥ last))) = true) := by
      intro hg
      simp only [Bool.and_eq_true, Bool.not_eq_true'] at hg
      obtain ⟨⟨g1, g2⟩, g3⟩ := hg
      have hs : seen ≠ [] := by rintro rfl; simp at g1
      have := hlast hs
      cases kvs with
      | nil => simp [ents, entsF] at g2
      | cons p r =>
        simp [ents, entsF] at g3
        omega
    generalize hleft : (ents pk kvs).filter (fun e => !(⟨seen⟩ : Array Nat).contains e.born) = left at *
    generalize hold : left.filter (fun e => decide (e.born < since)) = old
    generalize hnew : left.filter (fun e => decide (e.born ≥ since)) = new
    generalize hcan : ((if old.isEmpty then #[none] else #[]) ++ (old ++ new).map some : Array (Option MapEntry)) = can
    have hpos : 0 < can.size := by
      rw [← hcan]
      cases ho : old.isEmpty
      · simp only [Bool.false_eq_true, if_false]
        have : old.size ≠ 0 := by intro e; simp [Array.isEmpty, e] at ho
        simp; omega
      · simp; omega
    obtain ⟨r, w', hch, hrlt, hw⟩ := run_mapNext (P := P) (w := w) hpos
    have hgc : can[r]? = some can[r] := by simp [hrlt]
    have hmemc : can[r] ∈ can.toList := by simp
    have hw2 : w'.heap = w.heap := by rcases hw with rfl | rfl <;> rfl
    cases hcr : can[r] with
    | none =>
      have hold0 : old.isEmpty = true := by
        rw [hcr, ← hcan] at hmemc
        cases ho : old.isEmpty
        · rw [ho] at hmemc; simp at hmemc
        · rfl
      refine over w' hw ?_ (hk.h' fun j hj1 hj2 => ?_)
      · simp only [Instr.next, hiv, Sem.run_bind, run_getObj hb, Result.andThen_ok, run_getObj hmb, if_neg hgone, hleft, hold, hnew, hcan, hch, hgc, hcr]
        rfl
      · by_cases hin : j ∈ seen
        · exact hin
        · exfalso
          obtain ⟨p, hp⟩ : ∃ p, kvs[j]? = some p := ⟨kvs[j], by simp [hj2]⟩
          have hE : (⟨keyV pk p.1, p.2, j⟩ : MapEntry) ∈ (ents pk kvs).toList := by
            have := entsF_get (pk := pk) kvs 0 j
            rw [hp] at this
            simp only [Option.map_some, Nat.zero_add] at this
            exact List.mem_of_getElem? this
          have hO : (⟨keyV pk p.1, p.2, j⟩ : MapEntry) ∈ old := by
            rw [← hold, ← hleft]
            simp only [Array.mem_filter, decide_eq_true_eq]
            exact ⟨⟨by simpa using hE, by simpa using hin⟩, hj1⟩
          simp only [Array.isEmpty_iff] at hold0
          rw [hold0] at hO
          simp at hO
    | some e =>
      have hE : e ∈ ents pk kvs ∧ e.born ∉ seen := by
        rw [hcr, ← hcan] at hmemc
        have : e ∈ old ++ new := by
          simp only [Array.toList_append, List.mem_append] at hmemc
          rcases hmemc with q | q
          · cases ho : old.isEmpty <;> rw [ho] at q <;> simp at q
          · simpa using q
        rw [Array.mem_append, ← hold, ← hnew, ← hleft] at this
        rcases this with q | q <;>
        · simp only [Array.mem_filter] at q
          exact ⟨q.1.1, by simpa using q.1.2⟩
      obtain ⟨hE1, hE2⟩ := hE
      obtain ⟨j, hj⟩ := List.getElem?_of_mem (show e ∈ entsF pk 0 kvs by simpa [ents] using hE1)
      rw [entsF_get] at hj
      cases hkv : kvs[j]? with
      | none => rw [hkv] at hj; cases hj
      | some p =>
        rw [hkv] at hj
        simp only [Option.map_some, Option.some.injEq, Nat.zero_add] at hj
        subst hj
        obtain ⟨key, v⟩ := p
        have hK := hk.h j key v hkv (by simpa using hE2)
        have hinv : Inv P T n w0 bs l0 s a w' loc := by rcases hw with rfl | rfl <;> first | exact h | exact h.drawn
        have hb2 : w'.heap[b']? = some (.mapIter (some mb') since ⟨seen⟩ last) := by rw [hw2]; exact hb
        have hrun : (Instr.next (a.eval it) false o.type).run P w = .ok (.tuple ⟨[.bool true, keyV pk key, v]⟩) { w' with heap := w'.heap.setIfInBounds b' (.mapIter (some mb') since ⟨seen ++ [j]⟩ kvs.length) } := by
          simp only [Instr.next, hiv, Sem.run_bind, run_getObj hb, Result.andThen_ok, run_getObj hmb, if_neg hgone, hleft, hold, hnew, hcan, hch, hgc, hcr]
          rw [show ((⟨seen⟩ : Array Nat).push j) = ⟨seen ++ [j]⟩ by simp, run_setObj _ hb2]
          rfl
        have hjl : j < kvs.length := (List.getElem?_eq_some_iff.1 hkv).1
        have hi := hinv.setObj (x' := .mit mid since (seen ++ [j]) kvs.length) hc hl hb2 rfl rfl rfl _ updI_obj ⟨mb', _, hml, heap_setObj hb2, fun _ => by omega⟩
        obtain ⟨loc', h3⟩ := hi.eff (y := .tuple ⟨[.bool true, keyV pk key, v]⟩) (e := .val (.tup [.v (.bool true), .v (keyV pk key), .v v])) (dst := o.dst)
          ⟨RowKit.Below.refl _ _, by simp only [Rep, RepL]; exact ⟨_, rfl, _, _, rfl, ⟨rfl, rfl⟩, _, _, rfl, ⟨rfl, by cases pk <;> rfl⟩, _, _, rfl, ⟨rfl, (hok _ (List.mem_of_getElem? hkv)).2⟩, rfl⟩⟩ hd
        exact .inl ⟨_, _, by simp only [execOp, ho, Sem.run_bind]; rw [hrun]; rfl, _, loc', hK, h3⟩
  · exact hk.elim
/-- A SLICE CLEARED. -/
theorem clear_sound {o : Oper} {args : Array Operand} {ts : Array TypeId} {x : Operand} {t : TypeId} {K : St → Prop} (h : Inv P T n w0 bs l0 s a w loc) (hd : ∀ i, o.dst = some i → i < n)
    (ho : o.op = .call { callee := .builtin .clear, args, argTypes := ts }) (hargs : args.toList = [x]) (hts : ts.toList = [t]) (hk : clearK T s t (s.ev x) fun s' => K (s'.eff o.dst (.val (.tup [])))) :
    Done P o a w fun y w' => ∃ s' loc', K s' ∧ Inv P T n w0 bs l0 s' (a.put o.dst y) w' loc' := by
  unfold clearK at hk
  split at hk
  · rename_i e sz' bs zr f sz id off len hti hx
    split at hk
    · rename_i ti c hte hc
      rw [asrt_iff] at hk
      obtain ⟨hsz, hpos, hput⟩ := hk
      have hsz : sz = ti.size := by simpa using hsz
      subst hsz
      have hv := h.ev x
      rw [hx] at hv
      simp only [Rep] at hv
      obtain ⟨aa, cap, l, n0, hy, _, hl, _, _, hm⟩ := hv
      obtain ⟨l1, xs, g1, g23⟩ := h.mem id c hc
      obtain ⟨g2, g3⟩ := g23.cells (by rintro z rfl; exact putK_obj hput)
      rw [hl] at g1
      simp only [Option.some.injEq, Prod.mk.injEq] at g1
      obtain ⟨rfl, rfl⟩ := g1
      cases l with
      | none => simp only at hm; omega
      | some b =>
        obtain ⟨o1, ha, ho1, _⟩ := hm
        have ho1 := ho1 (by omega)
        subst ho1
        obtain ⟨k, e0, hkk, hk1, hk2⟩ := g3
        have hte' := h.types e ti hte
        have hone : ti.zero.cells.toList.all Value.oneCell' = true := by
          have := hte'.flat
          cases hz : ti.zero with
          | agg arr => rw [hz] at this; simpa [Flat, Value.cells] using this
          | tuple arr => rw [hz] at this; simp [Flat] at this
          | _ => simp [Value.cells, Value.oneCell']
        have hall := all_rep len hone
        obtain ⟨c', us, q1, q2, q3, q4, q5⟩ := putK_sound (y := .agg ⟨rep len ti.zero.cells.toList⟩) hput g2 (by simp only [Rep, Flat, true_and]; exact hall)
        have hus : us = rep len ti.zero.cells.toList := by
          have : (⟨rep len ti.zero.cells.toList⟩ : Array Value) = ⟨us⟩ := q2
          injection this with this
          exact this.symm
        have hrun := run_storeCells_at P b o1 e0 us 0 k w hkk (by simp; omega) (by simpa [List.all_eq_true] using q3)
        have hks : (⟨k.toList.take (o1 + 0) ++ us ++ k.toList.drop (o1 + 0 + us.length)⟩ : Array Value) = ⟨splice k.toList o1 us⟩ := rfl
        have hu := (h.types t _ hti).und
        simp only [UOk] at hu
        have hts' : ts[0]? = some t := by rw [← Array.getElem?_toList, hts]; rfl
        have hav : (args.map a.eval)[0]? = some (a.eval x) := by rw [← Array.getElem?_toList, Array.toList_map, hargs]; rfl
        obtain ⟨len', rfl⟩ : ∃ m, len = m + 1 := ⟨len - 1, by omega⟩
        rw [eff_junk] at q1
        refine .inl ⟨.tuple #[], w.setRow b ⟨splice k.toList o1 us⟩, ?_, _, loc, q1, Inv.skip (h.write hc hl hkk hk1 hk2 q4 q5) o.dst hd⟩
        have hz := run_zero (w := w) h.types hte
        have hcells : (Builtin.zeroCells ti.zero.cells (len' + 1)).toList = us := by
          rw [hus]; exact zeros_rep _ _
        rw [← hks]
        simp [execOp, ho, resolve, invoke, builtin, Builtin.clear_, hts', hav, hy, ha, run_under hu, hz, hcells, hrun]
    · exact hk.elim
  · exact hk.elim
/-- CELLS COPIED. -/
theorem copy_sound {o : Oper} {args : Array Operand} {ts : Array TypeId} {x y : Operand} {t t' : TypeId} {K : St → Prop} (h : Inv P T n w0 bs l0 s a w loc) (hd : ∀ i, o.dst = some i → i < n)
    (ho : o.op = .call { callee := .builtin .copy, args, argTypes := ts }) (hargs : args.toList = [x, y]) (hts : ts.toList = [t, t']) (hk : copyK T s t (s.ev x) (s.ev y) fun s' m => K (s'.eff o.dst (.val (.v (.int .i64 m))))) :
    Done P o a w fun y w' => ∃ s' loc', K s' ∧ Inv P T n w0 bs l0 s' (a.put o.dst y) w' loc' := by
  unfold copyK at hk
  split at hk
  · rename_i e sz' bs' zr f sz id off len hti hx
    split at hk
    · rename_i ti c hte hc
      split at hk
      · rename_i cy m hsrc
        rw [asrt_iff] at hk
        obtain ⟨hsz, ⟨hml, hpos⟩, hput⟩ := hk
        have hsz : sz = ti.size := by simpa using hsz
        subst hsz
        have hv := h.ev x
        rw [hx] at hv
        simp only [Rep] at hv
        obtain ⟨aa, cap, l, n0, hy, _, hl, _, _, hm⟩ := hv
        obtain ⟨news, hr, hlen, hlo, hfc⟩ := srcOf_sound (P := P) h.mem hsrc (h.ev y)
        obtain ⟨l1, xs, g1, g23⟩ := h.mem id c hc
        obtain ⟨g2, g3⟩ := g23.cells (by rintro z rfl; exact putK_obj hput)
        rw [hl] at g1
        simp only [Option.some.injEq, Prod.mk.injEq] at g1
        obtain ⟨rfl, rfl⟩ := g1
        cases l with
        | none => simp only at hm; omega
        | some b =>
          obtain ⟨o1, ha, ho1, _⟩ := hm
          have ho1 := ho1 (by omega)
          subst ho1
          obtain ⟨k, e0, hkk, hk1, hk2⟩ := g3
          obtain ⟨c', us, q1, q2, q3, q4, q5⟩ := putK_sound (y := .agg ⟨news⟩) hput g2 hr
          have hus : us = news := by
            have : (⟨news⟩ : Array Value) = ⟨us⟩ := q2
            injection this with this
            exact this.symm
          have hrun := run_storeCells_at P b o1 e0 us 0 k w hkk (by simp; omega) (by simpa [List.all_eq_true] using q3)
          have hks : (⟨k.toList.take (o1 + 0) ++ us ++ k.toList.drop (o1 + 0 + us.length)⟩ : Array Value) = ⟨splice k.toList o1 us⟩ := rfl
          have hu := (h.types t _ hti).und
          simp only [UOk] at hu
          have hts' : ts[0]? = some t := by rw [← Array.getElem?_toList, hts]; rfl
          have hav : (args.map a.eval)[0]? = some (a.eval x) := by rw [← Array.getElem?_toList, Array.toList_map, hargs]; rfl
          have hav1 : (args.map a.eval)[1]? = some (a.eval y) := by rw [← Array.getElem?_toList, Array.toList_map, hargs]; rfl
          have hi2 := h.write hc hl hkk hk1 hk2 q4 q5
          obtain ⟨loc', h3⟩ := hi2.eff (y := .int .i64 m) (e := .val (.v (.int .i64 m))) (dst := o.dst) ⟨RowKit.Below.refl _ _, by rw [Rep]; exact ⟨rfl, rfl⟩⟩ hd
          refine .inl ⟨.int .i64 m, w.setRow b ⟨splice k.toList o1 us⟩, ?_, _, loc', q1, h3⟩
          have hmin : Nat.min m len = m := Nat.min_eq_left hml
          have hfc := hfc w rfl
          rw [← hus] at hfc
          rw [← hks]
          simp [execOp, ho, resolve, invoke, builtin, Builtin.copy_, hts', hav, hav1, hy, ha, run_under hu, hlo, hmin, run_size h.types hte, hfc, hrun, goInt]
      · exact hk.elim
    · exact hk.elim
  · exact hk.elim
theorem op_sound {o : Oper} {K : St → Prop} (h : Inv P T n w0 bs l0 s a w loc) (hd : ∀ i, o.dst = some i → i < n) (hk : opWp P T o s K) :
    Done P o a w fun y w' => ∃ s' loc', K s' ∧ Inv P T n w0 bs l0 s' (a.put o.dst y) w' loc' := by
  have quiet : quietK P T o s (fun e => K (s.eff o.dst e)) → Done P o a w fun y w' => ∃ s' loc', K s' ∧ Inv P T n w0 bs l0 s' (a.put o.dst y) w' loc' := by
    intro hq
    have hg := quiet_sound h.ctx (fun i hi => Nat.lt_of_lt_of_le (hd i hi) h.small) hq
    have conv : ∀ y w', (∃ e, K (s.eff o.dst e) ∧ EffRel bs s.c o.dst w loc w' y e) → ∃ s' loc', K s' ∧ Inv P T n w0 bs l0 s' (a.put o.dst y) w' loc' := by
      rintro y w' ⟨e, h1, h2⟩
      obtain ⟨loc', h3⟩ := h.eff h2 hd
      exact ⟨_, loc', h1, h3⟩
    rcases hg with ⟨y, w', h1, h2⟩ | ⟨w', h1, h2⟩ | ⟨f, args, w', h1, h2⟩
    · exact .inl ⟨y, w', h1, conv _ _ h2⟩
    · exact .inr (.inl ⟨w', h1, conv _ _ h2⟩)
    · refine .inr (.inr ⟨f, args, w', h1, h2.mono ?_⟩)
      rintro e w'' ⟨y, rfl, h3⟩
      exact ⟨y, rfl, conv _ _ h3⟩
  have hk' := hk
  unfold opWp at hk
  split at hk
  · rename_i t p x ho; exact store_sound h hd ho hk'
  · rename_i t m k x ho; exact map_sound h hd ho hk'
  · rename_i t m k ho; exact mapEntry_sound h hd ho hk'
  · rename_i t m e x ho; exact entryStore_sound h hd ho hk'
  · rename_i it isStr ho; exact next_sound h hd ho hk'
  · rename_i args ts ho; exact append_sound h hd ho hk'
  · rename_i args ts ho
    split at hk
    · rename_i x y t t' hx ht
      exact copy_sound h hd ho hx ht (by simpa only [effK_eq] using hk)
    · exact hk.elim
  · rename_i args ts ho
    split at hk
    · rename_i x t hx ht
      exact clear_sound h hd ho hx ht (by simpa only [effK_eq] using hk)
    · exact hk.elim
  · rename_i g args ts ho
    have calm : callK P s (.fn (.func g) [] []) (args.toList.map s.ev) o.dst (fun e => effK s o.dst e K) → quietK P T o s fun e => K (s.eff o.dst e) := by
      intro hk
      unfold quietK
      rw [ho]
      have e : s.ev (.func g) = .fn (.func g) [] [] := rfl
      simpa only [effK_eq, e] using hk
    cases hb : isBoth g <;> simp only [hb, cond_true, cond_false] at hk
    · cases hm : isMut g <;> simp only [hm, cond_true, cond_false] at hk
      · exact quiet (calm hk)
      · exact callM_sound h hd ho hk
    · rcases hk with hk | hk
      · exact quiet (calm hk)
      · exact callM_sound h hd ho hk
  · rename_i f args ts _ ho
    rcases hk with hk | hk
    · refine quiet ?_
      unfold quietK
      rw [ho]
      simpa only [effK_eq] using hk
    · exact callM_sound h hd ho hk
  · exact quiet (by simpa only [effK_eq] using hk)

theorem undef_no_bool (b : Bool) : undef ≠ .bool b := by
  unfold undef; simp

/-- A guard, as the abstract state has it. -/
theorem guard_yes {ops : Array Oper} {o : Oper} {yes no : Prop} (ht : ∀ i, Rep w bs loc (s.t i) (a.tmps.getD i undef)) (h : guardK ops o s yes no) :
    (Region.wanted o (yielded ops a.tmps) = true ∧ yes) ∨ (Region.wanted o (yielded ops a.tmps) = false ∧ no) := by
  unfold guardK at h
  cases hg : o.guard with
  | none =>
    have : guardOf ops o = none := by simp [guardOf, hg]
    rw [this] at h
    exact .inl ⟨by simp [Region.wanted, hg], h⟩
  | some jw =>
    obtain ⟨j, want⟩ := jw
    have hgo : guardOf ops o = some ((ops[j]?).bind (·.dst), want) := by simp [guardOf, hg]
    rw [hgo] at h
    cases hq : (ops[j]?).bind (·.dst) with
    | none => rw [hq] at h; exact h.elim
    | some g =>
      rw [hq] at h
      simp only at h
      split at h
      · rename_i b hb
        have hr := ht g
        rw [hb] at hr
        simp only [Rep] at hr
        have hy : yielded ops a.tmps j = some b := by
          have hv := hr.1
          rw [Array.getD_eq_getD_getElem?] at hv
          cases hgt : a.tmps[g]? with
          | none => rw [hgt] at hv; exact absurd hv (undef_no_bool b)
          | some y =>
            rw [hgt] at hv
            simp only [Option.getD_some] at hv
            subst hv
            simp [yielded, hq, hgt]
        cases b <;> cases want <;> simp only at h <;> first
          | exact .inl ⟨by simp [Region.wanted, hg, hy], h⟩
          | exact .inr ⟨by simp [Region.wanted, hg, hy], h⟩
      · rename_i hb
        have hr := ht g
        rw [hb] at hr
        simp only [Rep, RepL] at hr
        obtain ⟨vs, hv, rfl⟩ := hr
        have hy : yielded ops a.tmps j = none := by
          rw [Array.getD_eq_getD_getElem?] at hv
          cases hgt : a.tmps[g]? with
          | none => simp [yielded, hq, hgt]
          | some y =>
            rw [hgt] at hv
            simp only [Option.getD_some] at hv
            subst hv
            simp [yielded, hq, hgt]
        exact .inr ⟨by simp [Region.wanted, hg, hy], h⟩
      · exact h.elim

theorem dst_lt {ops : Array Oper} (hd : dstOk n ops = true) {j : Nat} {o : Oper} (ho : ops[j]? = some o) : ∀ i, o.dst = some i → i < n := by
  intro i hi
  have hm : o ∈ ops.toList := by simpa using Array.mem_of_getElem? ho
  have := (List.all_eq_true.1 hd) o hm
  rw [hi] at this
  simpa using this

theorem ops_sound {ops : Array Oper} (hd : dstOk n ops = true) {K : St → Prop} {Q : Exit → Act → World → Prop}
    (hQ : ∀ s' a' w' loc', K s' → Inv P T n w0 bs l0 s' a' w' loc' → Q .normal a' w') :
    ∀ (m j : Nat) (s : St) (a : Act) (w : World) (loc : Loc), j + m = ops.size → opsWp P T ops (ops.toList.drop j) K s → Inv P T n w0 bs l0 s a w loc → wpOps P ops Q (List.range' j m) a w := by
  intro m
  induction m with
  | zero =>
    intro j s a w loc hj hk h
    have : ops.toList.drop j = [] := List.drop_eq_nil_of_le (by simp; omega)
    rw [this] at hk
    exact hQ _ _ _ _ hk h
  | succ m ih =>
    intro j s a w loc hj hk h
    have hlt : j < ops.size := by omega
    have ho : ops[j]? = some ops[j] := by simp [hlt]
    have hdrop : ops.toList.drop j = ops[j] :: ops.toList.drop (j + 1) := by
      rw [List.drop_eq_getElem_cons (by simpa using hlt)]
      simp
    rw [hdrop] at hk
    simp only [opsWp, effK_eq, eff_junk] at hk
    simp only [List.range'_succ, wpOps, ho]
    rcases guard_yes h.tmp hk with ⟨hw, hk⟩ | ⟨hw, hk⟩
    · rw [if_pos hw]
      left
      refine Done.wp (op_sound h (dst_lt hd ho) hk) ?_
      rintro y w' ⟨s', loc', h1, h2⟩
      exact ih (j + 1) s' _ w' loc' (by omega) h1 h2
    · rw [if_neg (by simp [hw])]
      exact ih (j + 1) _ _ w loc (by omega) hk (h.skip _ (dst_lt hd ho))

/-! ### A region whose order is open -/

theorem ev_congr {s s' : St} {x : Operand} (h : ∀ t, x = .tmp t → s.t t = s'.t t) : s.ev x = s'.ev x := by
  cases x with
  | tmp t => exact h t rfl
  | const v => cases v <;> rfl
  | _ => rfl

theorem map_ev_congr {s s' : St} {l : List Operand} (h : ∀ x ∈ l, s.ev x = s'.ev x) : l.map s.ev = l.map s'.ev := List.map_congr_left h

theorem contOf_congr {s s' : St} (h : s.m = s'.m) (x : D) : contOf s x = contOf s' x := by
  cases x <;> simp only [contOf, h]
theorem optI_congr {s s' : St} {o : Option Operand} (h : ∀ x, o = some x → s.ev x = s'.ev x) : optI s o = optI s' o := by
  cases o with
  | none => rfl
  | some x => simp only [optI, h x rfl]

theorem quietK_congr {s s' : St} {o : Oper} {K : Eff → Prop} (hev : ∀ x ∈ o.op.operands.toList, s.ev x = s'.ev x) (hm : s.m = s'.m) (hc : ∀ i, o.dst = some i → s.c i = s'.c i) (h : quietK P T o s K) : quietK P T o s' K := by
  have hnew : ∀ (dm : Id → D) (c : D), newK s o.dst dm c K → newK s' o.dst dm c K := by
    intro dm c h
    unfold newK at h ⊢
    cases hd : o.dst with
    | none => rw [hd] at h; exact h
    | some i => rw [hd] at h; simp only at h ⊢; rw [← hc i hd]; exact h
  cases hop : o.op <;> rw [hop] at hev <;> simp only [quietK, hop] at h ⊢
  case move x => rw [← hev x (by simp [Op.operands])]; exact h
  case assign x => rw [← hev x (by simp [Op.operands])]; exact h
  case pick c x y =>
    rw [← hev c (by simp [Op.operands]), ← hev x (by simp [Op.operands]), ← hev y (by simp [Op.operands])]; exact h
  case alloc t => split at h <;> first | exact hnew _ _ h | exact h.elim
  case box t x =>
    rw [← hev x (by simp [Op.operands])]
    rw [force_eq] at h ⊢
    cases hx : s.ev x <;> rw [hx] at h <;> first | exact h.elim | exact hnew _ _ h
  case build t parts =>
    have hp : evParts s parts = evParts s' parts := by
      unfold evParts
      apply List.map_congr_left
      intro p hp
      rw [hev p.2 (by simp [Op.operands]; exact ⟨p.1, by simpa using hp⟩)]
    rw [← hp]; exact h
  case buildSlice t len parts =>
    have hp : evParts s parts = evParts s' parts := by
      unfold evParts
      apply List.map_congr_left
      intro p hp
      rw [hev p.2 (by simp [Op.operands]; exact ⟨p.1, by simpa using hp⟩)]
    rw [← hp]
    split at h
    · split at h
      · split at h
        · split at h
          · rw [asrt_iff] at h ⊢; exact ⟨h.1, hnew _ _ h.2⟩
          · exact h.elim
        · exact h.elim
      · exact h.elim
    · exact h.elim
  case load t x => rw [← hev x (by simp [Op.operands]), ← hm]; exact h
  case binOp op t x y t' => rw [← hev x (by simp [Op.operands]), ← hev y (by simp [Op.operands])]; exact h
  case unOp op t x => rw [← hev x (by simp [Op.operands])]; exact h
  case convert t u x =>
    rw [← hev x (by simp [Op.operands])]
    unfold convK at h ⊢
    simp only [← contOf_congr hm]
    exact h
  case makeMap t r =>
    cases r with
    | none =>
      simp only at h ⊢
      split at h
      · split at h
        · exact hnew _ _ h
        · exact h.elim
      · exact h.elim
    | some x => exact h.elim
  case lookup t m k ok =>
    rw [← hev m (by simp [Op.operands]), ← hev k (by simp [Op.operands])]
    unfold lookK mapK at h ⊢
    rw [← hm]; exact h
  case range t x =>
    rw [← hev x (by simp [Op.operands])]
    split at h
    · exact hnew _ _ h
    · split at h
      · rename_i e; rw [← hm, e]; exact hnew _ _ h
      · exact h.elim
    · exact h.elim
  case entry x =>
    rw [← hev x (by simp [Op.operands])]
    unfold entryK at h ⊢
    rw [← hm]; exact h
  case makeFunc fn first caps =>
    rw [← map_ev_congr (l := first.toList) (fun x hx => hev x (by simp [Op.operands]; left; simpa using hx)), ← map_ev_congr (l := caps.toList) (fun x hx => hev x (by simp [Op.operands]; right; simpa using hx))]
    exact h
  case makeSlice t x y =>
    rw [← hev x (by simp [Op.operands]), ← hev y (by simp [Op.operands])]
    split at h
    · split at h
      · rw [asrt_iff] at h ⊢
        exact ⟨h.1, h.2.1, hnew _ _ h.2.2⟩
      · exact h.elim
    · exact h.elim
  case slice t x lo hi mx =>
    rw [← hev x (by simp [Op.operands])]
    unfold sliceK at h ⊢
    rw [← optI_congr (s := s) (s' := s') (o := lo) (fun z hz => hev z (by simp [Op.operands, hz])), ← optI_congr (s := s) (s' := s') (o := hi) (fun z hz => hev z (by simp [Op.operands, hz])), ← hm]
    exact h
  case fieldAddr t x f => rw [← hev x (by simp [Op.operands])]; exact h
  case field t x f => rw [← hev x (by simp [Op.operands])]; exact h
  case indexAddr t x i => rw [← hev x (by simp [Op.operands]), ← hev i (by simp [Op.operands])]; exact h
  case index t x i => rw [← hev x (by simp [Op.operands]), ← hev i (by simp [Op.operands])]; exact h
  case extract x i => rw [← hev x (by simp [Op.operands])]; exact h
  case nilCheck x => rw [← hev x (by simp [Op.operands])]; exact h
  case call c =>
    obtain ⟨callee, args, ts⟩ := c
    have hargs : ∀ x ∈ args.toList, s.ev x = s'.ev x := fun x hx => hev x (by simp [Op.operands, Call.operands]; right; simpa using hx)
    cases callee with
    | builtin b => simp only at h ⊢; rw [← map_ev_congr hargs]; exact h
    | value f =>
      simp only at h ⊢
      rw [← map_ev_congr hargs, ← hev f (by simp [Op.operands, Call.operands])]
      unfold callK at h ⊢
      split at h
      · rename_i g first caps hf
        obtain ⟨dargs, res, h1, h2, h3⟩ := h
        refine ⟨dargs, res, by rw [← hm]; exact h1, h2, ?_⟩
        cases hd : o.dst with
        | none => rw [hd] at h3; exact h3
        | some i => rw [hd] at h3; simp only at h3 ⊢; rw [← hc i hd]; exact h3
      · exact h.elim
    | invoke r m => exact h

/-- What a quiet operation leaves can be named. -/
theorem quietK_pick {s : St} {o : Oper} {K : Eff → Prop} (h : quietK P T o s K) : ∃ e, K e ∧ quietK P T o s (fun e' => e' = e) := by
  have hnew : ∀ (dm : Id → D) (c : D), newK s o.dst dm c K → ∃ e, K e ∧ newK s o.dst dm c (fun e' => e' = e) := by
    intro dm c h
    unfold newK at h
    cases hd : o.dst with
    | none => rw [hd] at h; exact h.elim
    | some i => rw [hd] at h; exact ⟨_, h, by simp [newK]⟩
  have hforce : ∀ (d : D) (F : D → Eff), force d (fun d => K (F d)) → ∃ e, K e ∧ force d (fun d => F d = e) := by
    intro d F h
    rw [force_eq] at h
    exact ⟨_, h, by rw [force_eq]⟩
  have hget : ∀ (c : D) (off : Nat) (F : D → Eff), getK c off (fun d => K (F d)) → ∃ e, K e ∧ getK c off (fun d => F d = e) := by
    intro c off F h
    unfold getK at h ⊢
    split at h
    · rw [optK_iff] at h
      obtain ⟨x, hx, h⟩ := h
      exact ⟨_, h, optK_of hx rfl⟩
    · rw [optK_iff] at h
      obtain ⟨x, hx, h⟩ := h
      obtain ⟨e, h1, h2⟩ := hforce _ _ h
      exact ⟨e, h1, optK_of hx h2⟩
    · exact h.elim
  have hsub : ∀ (c : D) (off m : Nat) (F : D → Eff), subK c off m (fun d => K (F d)) → ∃ e, K e ∧ subK c off m (fun d => F d = e) := by
    intro c off m F h
    unfold subK at h ⊢
    split at h
    · exact ⟨_, h.2, h.1, rfl⟩
    · exact ⟨_, h.2, h.1, rfl⟩
    · exact h.elim
  have hload : ∀ (t : TypeId) (c : D) (off : Nat) (F : D → Eff), loadK T t c off (fun d => K (F d)) → ∃ e, K e ∧ loadK T t c off (fun d => F d = e) := by
    intro t c off F h
    unfold loadK at h ⊢
    split at h
    · split at h
      · exact hsub _ _ _ _ h
      · exact hget _ _ _ h
    · exact h.elim
  cases hop : o.op <;> simp only [quietK, hop] at h ⊢
  case move x => exact hforce _ _ h
  case assign x => exact hforce _ _ h
  case pick c x y =>
    split at h
    · split at h
      · exact hforce _ _ h
      · exact hforce _ _ h
    · exact h.elim
  case alloc t => split at h <;> first | exact hnew _ _ h | exact h.elim
  case box t x =>
    simp only [force_eq] at h ⊢
    cases hx : s.ev x <;> rw [hx] at h <;> first | exact h.elim | exact hnew _ _ h
  case build t parts =>
    split at h
    · split at h
      · split at h
        · split at h
          · exact ⟨_, h, rfl⟩
          · exact h.elim
        · exact h.elim
      · exact h.elim
    · split at h
      · split at h
        · exact ⟨_, h, rfl⟩
        · exact h.elim
      · exact h.elim
    · exact h.elim
  case buildSlice t len parts =>
    split at h
    · split at h
      · split at h
        · split at h
          · rw [asrt_iff] at h
            obtain ⟨e, h1, h2⟩ := hnew _ _ h.2
            exact ⟨e, h1, asrt_iff.2 ⟨h.1, h2⟩⟩
          · exact h.elim
        · exact h.elim
      · exact h.elim
    · exact h.elim
  case load t x =>
    split at h
    · split at h
      · exact hload _ _ _ _ h
      · exact h.elim
    · exact hload _ _ _ _ h
    · exact h.elim
  case binOp op t x y t' =>
    unfold binK at h ⊢
    split at h
    · split at h
      · exact ⟨_, h.2, h.1, rfl⟩
      · exact ⟨_, h.2, h.1, rfl⟩
      · simp only [asrt_iff] at h ⊢
        obtain ⟨h0, h⟩ := h
        split at h
        · exact ⟨_, h, h0, rfl⟩
        · exact ⟨_, h, h0, rfl⟩
        · exact ⟨_, h, h0, rfl⟩
        · exact ⟨_, h.2, h0, h.1, rfl⟩
        · exact ⟨_, h.2, h0, h.1, rfl⟩
        · exact ⟨_, h, h0, rfl⟩
        · exact ⟨_, h, h0, rfl⟩
        · exact ⟨_, h, h0, rfl⟩
        · exact ⟨_, h, h0, rfl⟩
        · split at h
          · exact ⟨_, h, h0, rfl⟩
          · exact h.elim
    · split at h
      · exact ⟨_, h.2, h.1, rfl⟩
      · split at h
        · exact ⟨_, h, rfl⟩
        · exact h.elim
    · split at h
      · obtain ⟨r, h1, h2⟩ := h; exact ⟨_, h2, r, h1, rfl⟩
      · obtain ⟨r, h1, h2⟩ := h; exact ⟨_, h2, r, h1, rfl⟩
      · exact h.elim
    · split at h
      · obtain ⟨xs, ys, r, h1, h2, h3, h4⟩ := h; exact ⟨_, h4, xs, ys, r, h1, h2, h3, rfl⟩
      · obtain ⟨xs, ys, r, h1, h2, h3, h4⟩ := h; exact ⟨_, h4, xs, ys, r, h1, h2, h3, rfl⟩
      · exact h.elim
    · split at h
      · exact ⟨_, h, rfl⟩
      · exact ⟨_, h, rfl⟩
      · exact h.elim
    · split at h
      · exact ⟨_, h, rfl⟩
      · exact h.elim
    · split at h
      · exact ⟨_, h.2, h.1, rfl⟩
      · exact h.elim
    · exact h.elim
  case unOp op t x =>
    unfold unK at h ⊢
    split at h <;> first | exact ⟨_, h, rfl⟩ | exact h.elim
  case convert t u x =>
    unfold convK at h ⊢
    split at h
    · exact ⟨_, h, rfl⟩
    · exact ⟨_, h, rfl⟩
    · exact ⟨_, h, rfl⟩
    · split at h
      · exact ⟨_, h, rfl⟩
      · exact h.elim
    · split at h
      · obtain ⟨b, h1, h2⟩ := h; exact ⟨_, h2, b, h1, rfl⟩
      · exact h.elim
    · exact h.elim
  case makeMap t r =>
    cases r with
    | none =>
      simp only at h ⊢
      split at h
      · split at h
        · exact hnew _ _ h
        · exact h.elim
      · exact h.elim
    | some x => exact h.elim
  case lookup t m k ok =>
    unfold lookK mapK at h ⊢
    split at h
    · split at h
      · obtain ⟨h1, h2⟩ := h
        unfold keyK at h2 ⊢
        split at h2
        · cases ok <;> exact ⟨_, h2, h1, rfl⟩
        · cases ok <;> exact ⟨_, h2, h1, rfl⟩
        · exact h2.elim
      · exact h.elim
    · exact h.elim
  case range t x =>
    split at h
    · exact hnew _ _ h
    · split at h
      · exact hnew _ _ h
      · exact h.elim
    · exact h.elim
  case entry x =>
    unfold entryK at h ⊢
    split at h
    · split at h
      · split at h
        · obtain ⟨h1, j, key, v, h2, h3, h4⟩ := h
          exact ⟨_, h4, h1, j, key, v, h2, h3, rfl⟩
        · exact h.elim
      · exact h.elim
    · exact h.elim
  case makeFunc fn first caps => exact ⟨_, h, rfl⟩
  case makeSlice t x y =>
    split at h
    · split at h
      · rw [asrt_iff] at h
        obtain ⟨e, g1, g2⟩ := hnew _ _ h.2.2
        exact ⟨e, g1, asrt_iff.2 ⟨h.1, h.2.1, g2⟩⟩
      · exact h.elim
    · exact h.elim
  case slice t x lo hi mx =>
    unfold sliceK at h ⊢
    split at h
    · exact ⟨_, h.2, h.1, rfl⟩
    · split at h
      · rw [asrt_iff] at h
        exact ⟨_, h.2.2, asrt_iff.2 ⟨h.1, h.2.1, rfl⟩⟩
      · exact h.elim
    · split at h
      · rw [asrt_iff] at h
        obtain ⟨e, g1, g2⟩ := hsub _ _ _ _ h.2.2
        exact ⟨e, g1, asrt_iff.2 ⟨h.1, h.2.1, g2⟩⟩
      · exact h.elim
    · split at h
      · exact ⟨_, h.2, h.1, rfl⟩
      · exact h.elim
    · split at h
      · obtain ⟨e, g1, g2⟩ := hsub _ _ _ _ h.2
        exact ⟨e, g1, h.1, g2⟩
      · exact h.elim
    · exact h.elim
  case fieldAddr t x f =>
    unfold fieldAddrK at h ⊢
    split at h
    · split at h
      · split at h
        · split at h
          · exact h.elim
          · split at h <;> first | exact ⟨_, h, rfl⟩ | exact h.elim
        · exact h.elim
      · exact h.elim
    · exact h.elim
  case field t x f =>
    unfold fieldK partK at h ⊢
    split at h
    · split at h
      · split at h
        · rcases h with h | h
          · obtain ⟨e, h1, h2⟩ := hload _ _ _ _ h
            exact ⟨e, h1, .inl h2⟩
          · unfold flatK at h ⊢
            split at h
            · obtain ⟨l, h1, h2⟩ := h
              exact ⟨_, h2, .inr ⟨l, h1, rfl⟩⟩
            · exact h.elim
        · exact hload _ _ _ _ h
      · exact h.elim
    · exact h.elim
  case indexAddr t x i =>
    unfold indexAddrK at h ⊢
    split at h
    · split at h
      · split at h
        · obtain ⟨h0, h⟩ := h
          split at h <;> first | exact ⟨_, h, h0, rfl⟩ | exact h.elim
        · exact h.elim
      · split at h
        · split at h
          · rw [asrt_iff] at h; exact ⟨_, h.2.2, asrt_iff.2 ⟨h.1, h.2.1, rfl⟩⟩
          · rw [asrt_iff] at h; exact ⟨_, h.2.2, asrt_iff.2 ⟨h.1, h.2.1, rfl⟩⟩
          · exact h.elim
        · exact h.elim
      · exact h.elim
    · exact h.elim
  case index t x i =>
    unfold indexK partK at h ⊢
    split at h
    · split at h
      · split at h
        · obtain ⟨e, g1, g2⟩ := hload _ _ _ _ h.2
          exact ⟨e, g1, h.1, g2⟩
        · exact h.elim
      · split at h
        · exact ⟨_, h.2, h.1, rfl⟩
        · exact h.elim
      · exact h.elim
    · exact h.elim
  case extract x i =>
    split at h
    · split at h
      · exact hforce _ _ h
      · exact h.elim
    · exact h.elim
  case nilCheck x => split at h <;> first | exact ⟨_, h, rfl⟩ | exact h.elim
  case call c =>
    obtain ⟨callee, args, ts⟩ := c
    cases callee with
    | builtin b =>
      simp only at h ⊢
      unfold builtinK at h ⊢
      split at h
      · split at h
        · exact ⟨_, h, rfl⟩
        · exact ⟨_, h, rfl⟩
        · split at h
          · exact ⟨_, h, rfl⟩
          · exact h.elim
        · exact h.elim
      · exact ⟨_, h, rfl⟩
      · exact ⟨_, h, rfl⟩
      · exact h.elim
    | value f =>
      simp only at h ⊢
      unfold callK at h ⊢
      split at h
      · obtain ⟨dargs, res, h1, h2, h3⟩ := h
        cases hd : o.dst with
        | none => rw [hd] at h3; exact ⟨_, h3, dargs, res, h1, h2, rfl⟩
        | some i => rw [hd] at h3; exact ⟨_, h3, dargs, res, h1, h2, rfl⟩
      · exact h.elim
    | invoke r m => exact h.elim

end
end Go.V
