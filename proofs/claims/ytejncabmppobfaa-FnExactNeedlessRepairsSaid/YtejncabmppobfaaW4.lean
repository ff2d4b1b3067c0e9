import Derived.Test.YtejncabmppobfaaW3
set_option linter.unusedVariables false
set_option linter.unusedSimpArgs false
/- The abstract states are sound, eighth part: an append. -/
set_option linter.unusedVariables false
set_option linter.unusedSimpArgs false
set_option linter.unusedSectionVars false
namespace Go.V
variable [Globs]

section
variable {P : Program} {T : Types} {n bs : Nat} {w0 w : World} {l0 : Loc} {s : St} {a : Act} {loc : Loc} {base : Nat}

theorem At.heap {w W : World} (h : W.heap = w.heap) {b o : Nat} {xs : List Value} (ha : At w b o xs) : At W b o xs := by
  obtain ⟨k, e, fr, h1, h2⟩ := ha
  exact ⟨k, e, fr, by rw [h]; exact h1, h2⟩

theorem first_sound {sz m : Nat} {aa : Option Addr} {cap : Nat} {xs : List Value} (hl : xs.length = m * sz) (hat : xs.length = 0 ∨ ∃ b o, aa = some ⟨b, o, none⟩ ∧ At w b o xs) (W : World) (hW : W.heap = w.heap) :
    (Builtin.firstCells sz m (.slice aa m cap)).run P W = .ok ⟨xs⟩ W := by
  cases aa with
  | none =>
    rcases hat with h | ⟨b, o, h, _⟩
    · have : xs = [] := List.eq_nil_of_length_eq_zero h
      subst this
      simp [Builtin.firstCells]
    · cases h
  | some q =>
    simp only [Builtin.firstCells]
    rcases hat with h | ⟨b, o, h, hat⟩
    · have : xs = [] := List.eq_nil_of_length_eq_zero h
      subst this
      rw [← hl]
      simp [loadCells, loadCellsFrom]
    · cases h
      rw [← hl]
      exact run_loadCells_at (hat.heap hW)

theorem srcOf_sound (hm : MemOk w base loc s.m) {sz : Nat} {y cy : D} {v : Value} {m : Nat} (h : srcOf s sz y = some (cy, m)) (hy : Rep w base loc y v) :
    ∃ news, Rep w base loc cy (.agg ⟨news⟩) ∧ news.length = m * sz ∧ (∀ W, (Builtin.lenOf v).run P W = .ok m W) ∧ ∀ W : World, W.heap = w.heap → (Builtin.firstCells sz m v).run P W = .ok ⟨news⟩ W := by
  unfold srcOf at h
  split at h
  · rename_i b
    cases hs : (sz == 1) <;> simp only [hs, cond_true, cond_false] at h
    · simp at h
    · simp only [beq_iff_eq] at hs
      subst hs
      simp only [Option.some.injEq, Prod.mk.injEq] at h
      obtain ⟨rfl, rfl⟩ := h
      simp only [Rep] at hy
      obtain ⟨rfl, _⟩ := hy
      refine ⟨byteVals b, ?_, by simp [byteVals], fun W => rfl, fun W _ => ?_⟩
      · simp only [Rep, true_and, Flat, List.all_eq_true, byteVals, List.mem_map]
        rintro x ⟨y, _, rfl⟩
        rfl
      · have hx : (b.extract 0 b.size) = b := by simp
        simp only [Builtin.firstCells, hx, Sem.run_pure]
        congr 1
        apply Array.ext'
        simp [byteVals]
  · simp only [Option.some.injEq, Prod.mk.injEq] at h
    obtain ⟨rfl, rfl⟩ := h
    simp only [Rep] at hy
    obtain ⟨rfl, _⟩ := hy
    exact ⟨[], by simp [Rep, Flat], by simp, fun W => rfl, fun W hW => first_sound (by simp) (.inl rfl) W hW⟩
  · split at h
    · rename_i mm c k sz' hc hl hs
      cases hq : (sz == sz') <;> simp only [hq, cond_true, cond_false] at h
      · simp at h
      · simp only [beq_iff_eq] at hq
        subst hq
        simp only [Option.some.injEq, Prod.mk.injEq] at h
        obtain ⟨rfl, rfl⟩ := h
        obtain ⟨aa, cap, xs, rfl, hle, hr, hlen, hat⟩ := contOf_sound hm hy hc hl (.inl hs)
        exact ⟨xs, hr, hlen hs, fun W => rfl, fun W hW => first_sound (hlen hs) hat W hW⟩
    · simp at h

theorem catC_sound {cx cy c : D} {xs ys : List Value} (h : catC cx cy = some c) (hx : Rep w base loc cx (.agg ⟨xs⟩)) (hy : Rep w base loc cy (.agg ⟨ys⟩)) : Rep w base loc c (.agg ⟨xs ++ ys⟩) := by
  unfold catC at h
  split at h
  · simp only [Option.some.injEq] at h
    subst h
    simp only [Rep, Value.agg.injEq] at hx hy ⊢
    obtain ⟨rfl, h1⟩ := hx
    obtain ⟨rfl, h2⟩ := hy
    simp only [Flat, List.all_append, true_and] at h1 h2 ⊢
    simp [h1, h2]
  · split at h
    · rename_i p q hp hq
      simp only [Option.some.injEq] at h
      subst h
      obtain ⟨h1, h2⟩ := hx.asList hp
      obtain ⟨h3, h4⟩ := hy.asList hq
      rw [Rep]
      exact ⟨_, rfl, h1.append h3, by simp only [List.all_append, h2, h4, Bool.and_self]⟩
    · simp at h

/-- Where it does not fit: a new row. -/
theorem run_append_new (hT : TOk P T) {t t' e : TypeId} {ti : TI} {d' : TypeDesc} (ht : P.underlying t = some (.slice e)) (hte : T e = some ti) (ht' : P.underlying t' = some d') (hni : ∀ k, d' ≠ .int k)
    {aa : Option Addr} {len cap m : Nat} {x : Value} {olds news : List Value} (hold : ∀ W : World, W.heap = w.heap → (Builtin.firstCells ti.size len (.slice aa len cap)).run P W = .ok ⟨olds⟩ W)
    (hlen : ∀ W, (Builtin.lenOf x).run P W = .ok m W) (hnew : ∀ W : World, W.heap = w.heap → (Builtin.firstCells ti.size m x).run P W = .ok ⟨news⟩ W)
    (hg : cap < len + m) (hb : (len + m) * ti.bytes ≤ 140737488355328) (hb2 : len + m ≤ 140737488355328) :
    ∃ cap' more, len + m ≤ cap' ∧ more.length = (cap' - (len + m)) * ti.size ∧ ∀ ty, (Builtin.append_ #[t, t'] ty #[.slice aa len cap, x]).run P w = .ok (.slice (some ⟨w.heap.size, 0, none⟩) (len + m) cap') (w.drew.alloc (.cells ⟨olds ++ news ++ more⟩ e (0, 0))) := by
  obtain ⟨i, i1, i2, i3, i4⟩ := (hT e ti hte).info
  have hzs := (hT e ti hte).size
  refine ⟨grownCap w (len + m) cap e, (Builtin.zeroCells ti.zero.cells (grownCap w (len + m) cap e - (len + m))).toList, ?_, ?_, ?_⟩
  · unfold grownCap; simp [Question.cut]
  · simp [Builtin.zeroCells, hzs]
  · intro ty
    have hnot : ¬ (len + m ≤ cap) := by omega
    have h63' : ¬ (9223372036854775807 < ((len : Int) + (m : Int))) := by omega
    have hfit := growslice_fits hg hb
    have h48' : ¬ (281474976710656 < Builtin.nextslicecap (len + m) cap * i.bytes) := by rw [i3]; omega
    have hzero : (match d' with | .int _ => true | _ => false) = false := by
      cases d' <;> first | rfl | exact absurd rfl (hni _)
    have ho := hold w.drew rfl
    have hn := hnew w.drew rfl
    rw [← i2] at ho hn
    simp [Builtin.append_, run_underlying ht, run_underlying ht', sizeOf, typeInfo, zeroValue, i1, i4, hlen, hnot, h63', h48', hzero, Question.forced, ho, hn, newRow, grownCap]
    congr 2
    apply Array.ext'
    simp

/-- Where it fits. -/
theorem run_append_fits' (hT : TOk P T) {t t' e ty : TypeId} {ti : TI} {d' : TypeDesc} (ht : P.underlying t = some (.slice e)) (hte : T e = some ti) (ht' : P.underlying t' = some d') (hni : ∀ k, d' ≠ .int k)
    {b : Nat} {len cap m : Nat} {x : Value} {news : List Value} {k : Array Value} {e' : TypeId} (hk : w.heap[b]? = some (.cells k e' (0, 0)))
    (hlen : ∀ W, (Builtin.lenOf x).run P W = .ok m W) (hnew : ∀ W : World, W.heap = w.heap → (Builtin.firstCells ti.size m x).run P W = .ok ⟨news⟩ W)
    (hg : len + m ≤ cap) (hroom : len * ti.size + news.length ≤ k.size) (hone : ∀ v ∈ news, v.oneCell' = true) :
    (Builtin.append_ #[t, t'] ty #[.slice (some ⟨b, 0, none⟩) len cap, x]).run P w = .ok (.slice (some ⟨b, 0, none⟩) (len + m) cap) (w.setRow b ⟨splice k.toList (len * ti.size) news⟩) := by
  obtain ⟨i, i1, i2, i3, i4⟩ := (hT e ti hte).info
  have hzero : (match d' with | .int _ => true | _ => false) = false := by
    cases d' <;> first | rfl | exact absurd rfl (hni _)
  have hn := hnew w rfl
  have hrun := run_storeCells_at P b (len * ti.size) e' news 0 k w hk (by omega) hone
  have e1 : (cur : Nat) → (⟨b, 0, none⟩ : Addr).add cur = ⟨b, cur, none⟩ := fun cur => by rw [addr_add, Nat.zero_add]
  rw [← i2] at hn hrun
  simp [Builtin.append_, run_underlying ht, run_underlying ht', sizeOf, typeInfo, i1, hlen, hg, hzero, hn, e1, hrun]
  rw [i2]
  simp [splice]

theorem run_append_nothing' (hT : TOk P T) {t t' e ty : TypeId} {ti : TI} {d' : TypeDesc} (ht : P.underlying t = some (.slice e)) (hte : T e = some ti) (ht' : P.underlying t' = some d') (hni : ∀ k, d' ≠ .int k)
    {aa : Option Addr} {x : Value} (hlen : ∀ W, (Builtin.lenOf x).run P W = .ok 0 W) (hnew : ∀ W : World, W.heap = w.heap → (Builtin.firstCells ti.size 0 x).run P W = .ok ⟨[]⟩ W) :
    (Builtin.append_ #[t, t'] ty #[.slice aa 0 0, x]).run P w = .ok (.slice aa 0 0) w := by
  obtain ⟨i, i1, i2, i3, i4⟩ := (hT e ti hte).info
  have hzero : (match d' with | .int _ => true | _ => false) = false := by
    cases d' <;> first | rfl | exact absurd rfl (hni _)
  have hn := hnew w rfl
  rw [← i2] at hn
  cases aa with
  | none => simp [Builtin.append_, run_underlying ht, run_underlying ht', sizeOf, typeInfo, i1, hlen, hzero, hn]
  | some q => simp [Builtin.append_, run_underlying ht, run_underlying ht', sizeOf, typeInfo, i1, hlen, hzero, hn, storeCells]

theorem Inv.kill (h : Inv P T n w0 bs l0 s a w loc) (id : Id) : Inv P T n w0 bs l0 { s with m := updI s.m id none } a w loc where
  types := h.types
  low := h.low
  solo := h.solo
  size := h.size
  small := h.small
  defers := h.defers
  same := h.same
  glob := h.glob
  tmp := h.tmp
  mem id' c hc := by
    simp only at hc
    rw [updI_eq] at hc
    split at hc
    · cases hc
    · exact h.mem id' c hc
  cnt := h.cnt
  range := h.range
  live id' c hc := by
    simp only at hc
    rw [updI_eq] at hc
    split at hc
    · cases hc
    · exact h.live id' c hc
  lent := h.lent
  inj id' id'' c c' b k k' hc hc' hl hl' := by
    simp only at hc hc'
    rw [updI_eq] at hc hc'
    split at hc
    · cases hc
    · split at hc'
      · cases hc'
      · exact h.inj _ _ _ _ _ _ _ hc hc' hl hl'

theorem under_of {t : TypeId} {i : TI} (hT : TOk P T) (h : T t = some i) (hni : ∀ k, i.u ≠ .int k) : ∃ d, P.underlying t = some d ∧ ∀ k, d ≠ .int k := by
  have := (hT t i h).und
  cases hh : i.u <;> rw [hh] at this <;> simp only [UOk] at this
  case int k => exact absurd hh (hni k)
  case ptr => obtain ⟨e, this⟩ := this; exact ⟨_, this, by simp⟩
  case struct => obtain ⟨e, this, _⟩ := this; exact ⟨_, this, by simp⟩
  case func => obtain ⟨e, f, g, this⟩ := this; exact ⟨_, this, by simp⟩
  case tup => obtain ⟨e, this⟩ := this; exact ⟨_, this, by simp⟩
  all_goals exact ⟨_, this, by simp⟩

/-- A new block of appended cells, as an effect. -/
theorem new_eff (h : Inv P T n w0 bs l0 s a w loc) {i : Nat} (hi : i < n) {sz len cap : Nat} {e : TypeId} {c : D} {xs more : List Value} (hc : Rep w bs loc c (.agg ⟨xs⟩)) (hx : xs.length = len * sz) (hle : len ≤ cap)
    (hm : xs.length + more.length = cap * sz) :
    EffRel bs s.c (some i) w loc (w.drew.alloc (.cells ⟨xs ++ more⟩ e (0, 0))) (.slice (some ⟨w.heap.size, 0, none⟩) len cap) (.new (.slc true sz (i, s.c i, 0) 0 len) (one c)) := by
  have hb0 : RowKit.Below w.heap.size w w.drew := (RowKit.Below.refl _ _).drew
  have hr : ∀ id b k, loc id = some (some b, k) → b < w.heap.size := fun id b k he => (h.range id b k he).2
  have hb : RowKit.Below w.heap.size w (w.drew.alloc (.cells ⟨xs ++ more⟩ e (0, 0))) := hb0.alloc (Nat.le_refl _) _
  refine ⟨hb, i, (fun j => match j with | 0 => some (some w.heap.size, xs.length) | _ + 1 => none), rfl, ?_⟩
  have hc' : Rep w.drew bs loc c (.agg ⟨xs⟩) := Rep.ext (ext_below hb0 hr) _ _ hc
  have hf : ∀ id l, loc id = some l → id.1 = i → id.2.1 < s.c i := fun id l hl hk => by
    have := h.cnt id l hl (by rw [hk]; exact Nat.lt_of_lt_of_le hi h.small)
    rw [hk] at this; exact this
  have hrep : Rep (w.drew.alloc (.cells ⟨xs ++ more⟩ e (0, 0))) bs (locR loc i (s.c i) (fun j => match j with | 0 => some (some w.heap.size, xs.length) | _ + 1 => none)) (.slc true sz (i, s.c i, 0) 0 len) (.slice (some ⟨w.heap.size, 0, none⟩) len cap) := by
    rw [Rep]
    refine ⟨_, _, some w.heap.size, xs.length, rfl, hle, by simp [locR], by omega, fun _ => ⟨rfl, hx.symm⟩, 0, rfl, fun _ => rfl, fun _ => ⟨rfl, _, _, _, heap_new w.drew _, ?_⟩⟩
    simp; omega
  have hn := new_rel (w := w.drew) (e := e) (i := i) (c := s.c i) more hc' hr hf hrep
  exact ⟨hn.rep, hn.range, hn.ofSome, hn.inj, hn.mem⟩

theorem append_sound {o : Oper} {args : Array Operand} {ts : Array TypeId} {K : St → Prop} (h : Inv P T n w0 bs l0 s a w loc) (hd : ∀ i, o.dst = some i → i < n)
    (ho : o.op = .call { callee := .builtin .append, args, argTypes := ts }) (hk : opWp P T o s K) :
    Done P o a w fun y w' => ∃ s' loc', K s' ∧ Inv P T n w0 bs l0 s' (a.put o.dst y) w' loc' := by
  simp only [opWp, ho] at hk
  split at hk
  · rename_i x y t t' hargs hts
    have hargs' : args = #[x, y] := by apply Array.ext'; simpa using hargs
    have hts' : ts = #[t, t'] := by apply Array.ext'; simpa using hts
    subst hargs'
    subst hts'
    have hex : ∀ z w', (∀ ty, (Builtin.append_ #[t, t'] ty #[a.eval x, a.eval y]).run P w = .ok z w') → (execOp a.eval o).run P w = .ok (.value z) w' := by
      intro z w' hz
      simp [execOp, ho, resolve, invoke, builtin, hz]
    have hvx := h.ev x
    have hvy := h.ev y
    have main : ∀ i' : TI, T t' = some i' → (∀ k, i'.u ≠ .int k) → appendK T s t (s.ev x) (s.ev y) o.dst K → Done P o a w fun y w' => ∃ s' loc', K s' ∧ Inv P T n w0 bs l0 s' (a.put o.dst y) w' loc' := by
      intro i' hi' hni hk
      obtain ⟨d', hu', hni'⟩ := under_of h.types hi' hni
      unfold appendK at hk
      split at hk
      · rename_i e sz0 bs0 z0 i hti hdst
        have hu := (h.types t _ hti).und
        simp only [UOk] at hu
        have hi := hd i hdst
        split at hk
        · rename_i ti hte
          split at hk
          · rename_i cy m hsrc
            obtain ⟨news, hry, hnl, hlen, hnew⟩ := srcOf_sound (P := P) h.mem hsrc hvy
            have fin : ∀ (s1 : St) (y1 : Value) (w1 : World) (ef : Eff), Inv P T n w0 bs l0 s1 a w loc → EffRel bs s1.c (some i) w loc w1 y1 ef → K (s1.eff (some i) ef) → (∀ ty, (Builtin.append_ #[t, t'] ty #[a.eval x, a.eval y]).run P w = .ok y1 w1) →
                Done P o a w fun y w' => ∃ s' loc', K s' ∧ Inv P T n w0 bs l0 s' (a.put o.dst y) w' loc' := by
              intro s1 y1 w1 ef hinv hef hK hrun
              obtain ⟨loc', hinv'⟩ := hinv.eff hef (fun j hj => by cases hj; exact hi)
              exact .inl ⟨y1, w1, hex _ _ hrun, _, loc', hK, by rw [hdst]; exact hinv'⟩
            split at hk
            · rename_i hxe
              rw [asrt_iff] at hk
              obtain ⟨hsz, ⟨hb, hm⟩, hK⟩ := hk
              rw [hxe] at hvx
              simp only [Rep] at hvx
              obtain ⟨hvx, _⟩ := hvx
              by_cases hm0 : m = 0
              · subst hm0
                have hnews : news = [] := List.eq_nil_of_length_eq_zero (by omega)
                subst hnews
                refine fin s (.slice none 0 0) w (.new (.slc true ti.size (i, s.c i, 0) 0 0) (one cy)) h ⟨RowKit.Below.refl _ _, i, (fun j => match j with | 0 => some (none, 0) | _ + 1 => none), rfl, ?_⟩ hK (fun ty => by rw [hvx]; exact run_append_nothing' h.types hu hte hu' hni' hlen hnew)
                have hext : Ext bs bs w loc w (locR loc i (s.c i) (fun j => match j with | 0 => some (none, 0) | _ + 1 => none)) :=
                  ext_new (RowKit.Below.refl _ _) (fun id b k he => (h.range id b k he).2) (fun id l hl hk => by
                    have := h.cnt id l hl (by rw [hk]; exact Nat.lt_of_lt_of_le hi h.small)
                    rw [hk] at this; exact this) (fun j b k hj => by cases j <;> simp at hj)
                refine ⟨?_, fun j b k hj => by cases j <;> simp at hj, fun j l hj => by cases j <;> first | rfl | (simp at hj), fun j j' b k k' hj => by cases j <;> simp at hj, fun j c' hj => ?_⟩
                · rw [Rep]
                  exact ⟨none, 0, none, 0, rfl, Nat.le_refl _, by simp [locR], by simp, fun _ => ⟨rfl, by simp⟩, rfl, rfl⟩
                · cases j with
                  | zero => simp only [one, Option.some.injEq] at hj; subst hj; exact ⟨none, [], rfl, .inl ⟨Rep.ext hext _ _ hry, rfl⟩⟩
                  | succ j => simp [one] at hj
              · obtain ⟨cap', more, g1, g2, g3⟩ := run_append_new (w := w) h.types hu hte hu' hni' (aa := none) (len := 0) (cap := 0) (olds := []) (fun W _ => rfl) hlen hnew (by omega) (by simpa using hb) (by omega)
                have hall : ∀ ty, (Builtin.append_ #[t, t'] ty #[a.eval x, a.eval y]).run P w = .ok (.slice (some ⟨w.heap.size, 0, none⟩) m cap') (w.drew.alloc (.cells ⟨news ++ more⟩ e (0, 0))) := by
                  intro ty
                  rw [hvx]
                  simpa using g3 ty
                rw [Nat.zero_add] at g1 g2
                refine fin s _ _ _ h (new_eff h hi hry hnl g1 ?_) hK hall
                rw [hnl, g2, ← Nat.add_mul]
                congr 1
                omega
            · rename_i sz id len hxe
              split at hk
              · rename_i cx hcx
                split at hk
                · rename_i c hcat
                  rw [asrt_iff] at hk
                  obtain ⟨hsz, ⟨hb, hm⟩, hK⟩ := hk
                  simp only [Bool.and_eq_true, beq_iff_eq, bne_iff_ne, ne_eq] at hsz
                  obtain ⟨rfl, hsz⟩ := hsz
                  rw [hxe] at hvx
                  simp only [Rep] at hvx
                  obtain ⟨aa, cap, l, n1, hvx, hle, hl, _, hfull, hloc⟩ := hvx
                  obtain ⟨_, hn1⟩ := hfull trivial
                  subst hn1
                  obtain ⟨l', xs, p1, p23⟩ := h.mem id cx hcx
                  obtain ⟨p2, p3⟩ := p23.cells (by rintro z rfl; simp [catC, asList] at hcat)
                  rw [hl] at p1
                  simp only [Option.some.injEq, Prod.mk.injEq] at p1
                  obtain ⟨rfl, hxl⟩ := p1
                  have hkill := h.kill id
                  have hrc := catC_sound hcat p2 hry
                  have hcl : (xs ++ news).length = (len + m) * ti.size := by rw [List.length_append, hnl, ← hxl, ← Nat.add_mul]
                  by_cases hfit : len + m ≤ cap
                  · cases l with
                    | none =>
                      simp only at hloc
                      obtain ⟨rfl, rfl⟩ := hloc
                      have hm0 : m = 0 := by omega
                      subst hm0
                      have hnews : news = [] := List.eq_nil_of_length_eq_zero (by omega)
                      subst hnews
                      have hxs : xs = [] := List.eq_nil_of_length_eq_zero (by omega)
                      subst hxs
                      refine fin { s with m := updI s.m id none } (.slice aa 0 0) w (.new (.slc true ti.size (i, s.c i, 0) 0 (0 + 0)) (one c)) hkill ⟨RowKit.Below.refl _ _, i, (fun j => match j with | 0 => some (none, 0) | _ + 1 => none), rfl, ?_⟩ hK (fun ty => by rw [hvx]; exact run_append_nothing' h.types hu hte hu' hni' hlen hnew)
                      have hext : Ext bs bs w loc w (locR loc i (s.c i) (fun j => match j with | 0 => some (none, 0) | _ + 1 => none)) :=
                        ext_new (RowKit.Below.refl _ _) (fun id b k he => (h.range id b k he).2) (fun id l hl hk => by
                          have := h.cnt id l hl (by rw [hk]; exact Nat.lt_of_lt_of_le hi h.small)
                          rw [hk] at this; exact this) (fun j b k hj => by cases j <;> simp at hj)
                      refine ⟨?_, fun j b k hj => by cases j <;> simp at hj, fun j l hj => by cases j <;> first | rfl | (simp at hj), fun j j' b k k' hj => by cases j <;> simp at hj, fun j c' hj => ?_⟩
                      · rw [Rep]
                        exact ⟨aa, 0, none, 0, rfl, Nat.le_refl _, by simp [locR], by simp, fun _ => ⟨rfl, by simp⟩, rfl, rfl⟩
                      · cases j with
                        | zero => simp only [one, Option.some.injEq] at hj; subst hj; exact ⟨none, [], rfl, .inl ⟨Rep.ext hext _ _ hrc, rfl⟩⟩
                        | succ j => simp [one] at hj
                    | some b =>
                      obtain ⟨oo, haa, _, hcapr⟩ := hloc
                      obtain ⟨rfl, kk, ee, fr, hkk, hcap⟩ := hcapr trivial
                      obtain ⟨k, e', hk1, hk2, hk3⟩ := p3
                      rw [hk1] at hkk
                      simp only [Option.some.injEq, Obj.cells.injEq] at hkk
                      obtain ⟨rfl, rfl, rfl⟩ := hkk
                      have hone : ∀ v ∈ news, v.oneCell' = true := by
                        have : cy ≠ .junk := by rintro rfl; unfold catC asList at hcat; split at hcat <;> simp_all
                        have hcyl : (asList cy).isSome = true := by
                          unfold catC at hcat
                          split at hcat
                          · rfl
                          · split at hcat
                            · rename_i hq; rw [hq]; rfl
                            · simp at hcat
                        simpa [List.all_eq_true] using hry.agg_one hcyl
                      have hroom : len * ti.size + news.length ≤ k.size := by
                        rw [hnl, ← Nat.add_mul]
                        exact Nat.le_trans (Nat.mul_le_mul_right _ hfit) hcap
                      have hsplen : (splice k.toList (len * ti.size) news).length = k.size := by rw [splice_length _ _ _ (by simpa using hroom)]; simp
                      have hfr : ∀ id l, loc id = some l → id.1 = i → id.2.1 < s.c i := fun id l hl hk => by
                        have := h.cnt id l hl (by rw [hk]; exact Nat.lt_of_lt_of_le hi h.small)
                        rw [hk] at this; exact this
                      have hkeep : ∀ id l, loc id = some l → locR loc i (s.c i) (fun j => match j with | 0 => some (some b, (len + m) * ti.size) | _ + 1 => none) id = some l := by
                        intro id l hl
                        rw [locR_eq, if_neg]
                        · exact hl
                        · rintro ⟨h1, h2⟩
                          have := hfr id l hl h1
                          omega
                      have hext : Ext bs bs w loc (w.setRow b ⟨splice k.toList (len * ti.size) news⟩) (locR loc i (s.c i) (fun j => match j with | 0 => some (some b, (len + m) * ti.size) | _ + 1 => none)) :=
                        ext_setRow hl hk1 _ (by simp [hsplen]) hkeep (fun b' hne hav id' n' he => by
                          rw [locR_eq] at he
                          split at he
                          · generalize id'.2.2 = j at he
                            cases j with
                            | zero => simp only [Option.some.injEq, Prod.mk.injEq] at he; exact hne he.1.symm
                            | succ j => simp at he
                          · exact hav _ _ he)
                      refine .inl ⟨.slice (some ⟨b, 0, none⟩) (len + m) cap, _, hex _ _ (fun ty => by rw [hvx, haa]; exact run_append_fits' h.types hu hte hu' hni' hk1 hlen hnew hfit hroom hone), _, locR loc i (s.c i) (fun j => match j with | 0 => some (some b, (len + m) * ti.size) | _ + 1 => none), hK, ?_⟩
                      rw [hdst]
                      refine ⟨h.types, h.low, (fun e => h.solo (by simp only [St.new, St.kill] at e; rw [upd_eq, if_neg (by have := Nat.lt_of_lt_of_le hi h.small; omega)] at e; exact e)), by simp [Act.put, h.size], h.small, h.defers, h.same.setRow ((h.range _ _ _ hl).1 (h.live _ _ hcx)) _ hk1 (by simp [hsplen]), tmps_put hext h.tmp (by rw [h.size]; exact hi) ?_, ?_, ?_, ?_, ?_, ?_, ?_, h.glob.ext hext⟩
                      · rw [Rep]
                        refine ⟨_, _, some b, (len + m) * ti.size, rfl, hfit, by simp [locR], by omega, fun _ => ⟨rfl, rfl⟩, 0, rfl, fun _ => rfl, fun _ => ⟨rfl, _, _, _, setRow_heap _ _ _ _ _ _ hk1, ?_⟩⟩
                        simp only [List.size_toArray, hsplen]
                        exact hcap
                      · intro id' c' hc'
                        simp only [St.new, St.kill] at hc'
                        rw [updR_eq] at hc'
                        split at hc'
                        · rename_i hid
                          generalize hj : id'.2.2 = j at hc'
                          cases j with
                          | zero =>
                            simp only [one, Option.some.injEq] at hc'
                            subst hc'
                            refine ⟨some b, xs ++ news, ?_, .inl ⟨Rep.ext hext _ _ hrc, _, e', setRow_heap _ _ _ _ _ _ hk1, ?_, ?_⟩⟩
                            · rw [locR_eq, if_pos hid, hj, hcl]
                            · simp only [splice, hxl, hk2]
                              rw [List.take_append_of_le_length (by simp), List.take_of_length_le (by simp)]
                            · rw [hcl]
                              simp only [List.size_toArray, hsplen]
                              exact Nat.le_trans (Nat.mul_le_mul_right _ hfit) hcap
                          | succ j => simp [one] at hc'
                        · rw [updI_eq] at hc'
                          split at hc'
                          · cases hc'
                          · rename_i hid hne
                            obtain ⟨l', xs', q1, q2⟩ := h.mem id' c' hc'
                            refine ⟨l', xs', hkeep _ _ q1, q2.ext hext (blk_setRow_other ?_) (obj_setRow hk1 _)⟩
                            rintro rfl
                            exact hne (h.inj _ _ _ _ _ _ _ hc' hcx q1 hl)
                      · intro id' l' hl' hkk'
                        rw [locR_eq] at hl'
                        simp only [St.new, St.kill]
                        rw [upd_eq]
                        split at hl'
                        · rename_i hid; rw [if_pos hid.1]; omega
                        · have := h.cnt id' l' hl' hkk'
                          split
                          · rename_i hid; rw [hid] at this; omega
                          · exact this
                      · intro id' b' k' hl'
                        rw [locR_eq] at hl'
                        rw [setRow_size]
                        split at hl'
                        · generalize id'.2.2 = j at hl'
                          cases j with
                          | zero => simp only [Option.some.injEq, Prod.mk.injEq] at hl'; obtain ⟨rfl, _⟩ := hl'; exact ⟨fun _ => (h.range _ _ _ hl).1 (h.live _ _ hcx), (h.range _ _ _ hl).2⟩
                          | succ j => simp at hl'
                        · exact h.range _ _ _ hl'
                      · intro id' c' hc'
                        simp only [St.new, St.kill] at hc'
                        rw [updR_eq] at hc'
                        split at hc'
                        · rename_i hid; rw [hid.1]; exact Nat.lt_of_lt_of_le hi (Nat.le_trans h.small (by decide))
                        · exact hkill.live _ _ hc'
                      · intro id' hid'
                        rw [locR_eq, if_neg]
                        · exact h.lent id' hid'
                        · rintro ⟨h1, _⟩
                          have := Nat.lt_of_lt_of_le hi h.small
                          omega
                      · intro id1 id2 c1 c2 b' k1 k2 hc1 hc2 hl1 hl2
                        simp only [St.new, St.kill] at hc1 hc2
                        rw [updR_eq] at hc1 hc2
                        rw [locR_eq] at hl1 hl2
                        have other : ∀ id3 c3 k3, updI s.m id none id3 = some c3 → loc id3 = some (some b, k3) → False := by
                          intro id3 c3 k3 h3 h4
                          rw [updI_eq] at h3
                          split at h3
                          · cases h3
                          · rename_i hne
                            exact hne (h.inj _ _ _ _ _ _ _ h3 hcx h4 hl)
                        by_cases e1 : id1.1 = i ∧ id1.2.1 = s.c i <;> by_cases e2 : id2.1 = i ∧ id2.2.1 = s.c i
                        · rw [if_pos e1] at hl1
                          rw [if_pos e2] at hl2
                          obtain ⟨x1, y1, z1⟩ := id1
                          obtain ⟨x2, y2, z2⟩ := id2
                          simp only at e1 e2 hl1 hl2
                          cases z1 <;> cases z2 <;> simp at hl1 hl2
                          rw [e1.1, e1.2, e2.1, e2.2]
                        · rw [if_pos e1] at hl1
                          rw [if_neg e2] at hl2 hc2
                          exfalso
                          generalize id1.2.2 = j at hl1
                          cases j with
                          | zero => simp only [Option.some.injEq, Prod.mk.injEq] at hl1; obtain ⟨rfl, _⟩ := hl1; exact other _ _ _ hc2 hl2
                          | succ j => simp at hl1
                        · rw [if_neg e1] at hl1 hc1
                          rw [if_pos e2] at hl2
                          exfalso
                          generalize id2.2.2 = j at hl2
                          cases j with
                          | zero => simp only [Option.some.injEq, Prod.mk.injEq] at hl2; obtain ⟨rfl, _⟩ := hl2; exact other _ _ _ hc1 hl1
                          | succ j => simp at hl2
                        · rw [if_neg e1] at hl1 hc1
                          rw [if_neg e2] at hl2 hc2
                          exact hkill.inj _ _ _ _ _ _ _ hc1 hc2 hl1 hl2
                  · have hat : xs.length = 0 ∨ ∃ b o, aa = some ⟨b, o, none⟩ ∧ At w b o xs := by
                      cases l with
                      | none => simp only at hloc; left; rw [← hxl, hloc.1]; simp
                      | some b =>
                        obtain ⟨oo, haa, _, hcapr⟩ := hloc
                        obtain ⟨rfl, _⟩ := hcapr trivial
                        exact .inr ⟨b, 0, haa, At.of_blk p3⟩
                    obtain ⟨cap', more, g1, g2, g3⟩ := run_append_new (w := w) h.types hu hte hu' hni' (aa := aa) (len := len) (cap := cap) (olds := xs) (fun W hW => first_sound hxl.symm hat W hW) hlen hnew (by omega) hb hm
                    have hall : ∀ ty, (Builtin.append_ #[t, t'] ty #[a.eval x, a.eval y]).run P w = .ok (.slice (some ⟨w.heap.size, 0, none⟩) (len + m) cap') (w.drew.alloc (.cells ⟨(xs ++ news) ++ more⟩ e (0, 0))) := by
                      intro ty
                      rw [hvx]
                      exact g3 ty
                    refine fin { s with m := updI s.m id none } _ _ _ hkill (new_eff hkill hi hrc hcl g1 ?_) hK hall
                    rw [hcl, g2, ← Nat.add_mul]
                    congr 1
                    omega
                · exact hk.elim
              · exact hk.elim
            · exact hk.elim
          · exact hk.elim
        · exact hk.elim
      · exact hk.elim
    split at hk
    · exact hk.elim
    · rename_i i' hni hi'
      exact main _ hi' (fun k e1 => by obtain ⟨u, a1, a2, a3⟩ := i'; simp only at e1; subst e1; exact hni _ _ _ _ rfl) hk
    · exact hk.elim
  · exact hk.elim

end
end Go.V
/- The abstract states are sound: a call that writes to blocks that are lent to it. -/
set_option linter.unusedVariables false
set_option linter.unusedSimpArgs false
set_option linter.unusedSectionVars false
namespace Go.V
variable [Globs]

theorem idEq_iff {a b : Id} : idEq a b = true ↔ a = b := by
  obtain ⟨x, y, z⟩ := a
  obtain ⟨x', y', z'⟩ := b
  simp [idEq]

section
variable {w : World} {base : Nat} {loc : Loc}

theorem mapD_sound {base' : Nat} {loc' : Loc} {own : Bool} {f : Id → Option Id} (hf : ∀ id id' l, f id = some id' → loc id = some l → loc' id' = some l) (hav : ∀ b, loc.avoids b → loc'.avoids b) (hb : own = true → base' ≤ base) :
    ∀ (n : Nat) (d d' : D) (y : Value), mapD own f n d = some d' → Rep w base loc d y → Rep w base' loc' d' y
  | 0, d, d', y, h, _ => by simp [mapD] at h
  | n + 1, d, d', y, h, hr => by
    have ih := mapD_sound hf hav hb n
    have ihL : ∀ (ds ds' : List D) (vs : List Value), mapO (mapD own f n) ds = some ds' → RepL w base loc ds vs → RepL w base' loc' ds' vs :=
      fun ds ds' vs hm hr => mapO_rep (fun d d' y => ih d d' y) hm hr
    cases d with
    | junk => simp only [mapD, Option.some.injEq] at h; subst h; simp [Rep]
    | mr _ => simp only [mapD, Option.some.injEq] at h; subst h; simp [Rep]
    | obj _ => simp only [mapD, reduceCtorEq] at h
    | v x => simp only [mapD, Option.some.injEq] at h; subst h; simpa only [Rep] using hr
    | ptr id off =>
      simp only [mapD] at h
      split at h
      · rename_i j hj
        simp only [Option.some.injEq] at h
        subst h
        simp only [Rep] at hr ⊢
        obtain ⟨b, k, h1, h2⟩ := hr
        exact ⟨b, k, hf _ _ _ hj h1, h2⟩
      · cases h
    | slc full sz id off len =>
      simp only [mapD] at h
      split at h
      · rename_i j hj
        simp only [Option.some.injEq] at h
        subst h
        simp only [Rep] at hr ⊢
        obtain ⟨a, cap, l, k, h1, h2, h3, h4⟩ := hr
        exact ⟨a, cap, l, k, h1, h2, hf _ _ _ hj h3, h4⟩
      · cases h
    | ref m c off =>
      simp only [mapD] at h
      split at h
      · rename_i c' hc
        simp only [Option.some.injEq] at h
        subst h
        simp only [Rep] at hr ⊢
        obtain ⟨b, o, xs, h1, h2, h3, h4, h5⟩ := hr
        refine ⟨b, o, xs, h1, h2, hav b h3, fun hm => ?_, ih _ _ _ hc h5⟩
        simp only [Bool.and_eq_true] at hm
        exact Nat.le_trans (hb hm.1) (h4 hm.2)
      · cases h
    | row m sz c len =>
      simp only [mapD] at h
      split at h
      · rename_i c' hc
        simp only [Option.some.injEq] at h
        subst h
        simp only [Rep] at hr ⊢
        obtain ⟨a, cap, xs, h1, h2, h3, h4, h5, hO⟩ := hr
        refine ⟨a, cap, xs, h1, h2, ih _ _ _ hc h3, h4, ?_, fun hm => ?_⟩
        rotate_left
        · simp only [Bool.and_eq_true] at hm
          rcases hO hm.2 with hO | ⟨b, k, e, q1, q2, q3, q4⟩
          · exact .inl hO
          · exact .inr ⟨b, k, e, q1, hav b q2, Nat.le_trans (hb hm.1) q3, q4⟩
        rcases h5 with h5 | ⟨b, o, g1, g2, g3, g4⟩
        · exact .inl h5
        · refine .inr ⟨b, o, g1, g2, hav b g3, fun hm => ?_⟩
          simp only [Bool.and_eq_true] at hm
          exact Nat.le_trans (hb hm.1) (g4 hm.2)
      · cases h
    | agg ds =>
      simp only [mapD] at h
      split at h
      · rename_i ds' hds
        simp only [Option.some.injEq] at h
        subst h
        simp only [Rep] at hr ⊢
        obtain ⟨vs, h1, h2, h3⟩ := hr
        exact ⟨vs, h1, ihL _ _ _ hds h2, h3⟩
      · cases h
    | tup ds =>
      simp only [mapD] at h
      split at h
      · rename_i ds' hds
        simp only [Option.some.injEq] at h
        subst h
        simp only [Rep] at hr ⊢
        obtain ⟨vs, h1, h2⟩ := hr
        exact ⟨vs, h1, ihL _ _ _ hds h2⟩
      · cases h
    | fn g a b =>
      simp only [mapD] at h
      split at h
      · rename_i a' ha
        split at h
        · rename_i b' hbb
          simp only [Option.some.injEq] at h
          subst h
          simp only [Rep] at hr ⊢
          obtain ⟨va, vb, h1, h2, h3⟩ := hr
          exact ⟨va, vb, h1, ihL _ _ _ ha h2, ihL _ _ _ hbb h3⟩
        · cases h
      · cases h
end

theorem findId_some : ∀ {l : List Id} {id : Id} {k0 k : Nat}, findId l id k0 = some k → k0 ≤ k ∧ l[k - k0]? = some id
  | [], id, k0, k, h => by simp [findId] at h
  | a :: r, id, k0, k, h => by
    simp only [findId] at h
    cases hc : idEq a id <;> simp only [hc, cond_true, cond_false] at h
    · obtain ⟨h1, h2⟩ := findId_some h
      refine ⟨by omega, ?_⟩
      rw [show k - k0 = (k - (k0 + 1)) + 1 by omega]
      simpa using h2
    · simp only [Option.some.injEq] at h
      subst h
      rw [idEq_iff] at hc
      subst hc
      exact ⟨Nat.le_refl _, by simp⟩
theorem lendF_some {l : List Id} {id id' : Id} (h : lendF l id = some id') : ∃ k, id' = lentId k ∧ l[k]? = some id := by
  unfold lendF at h
  split at h
  · rename_i k hk
    simp only [Option.some.injEq] at h
    obtain ⟨_, h2⟩ := findId_some hk
    exact ⟨k, h.symm, by simpa using h2⟩
  · cases h
theorem distinctIds_get : ∀ {l : List Id}, distinctIds l = true → ∀ {k k' : Nat} {id : Id}, l[k]? = some id → l[k']? = some id → k = k'
  | [], _, k, k', id, h, _ => by simp at h
  | a :: r, hd, k, k', id, h, h' => by
    simp only [distinctIds, Bool.and_eq_true, Bool.not_eq_true'] at hd
    have no : ∀ j, r[j]? = some a → False := fun j hj => by
      have : r.any (idEq a) = true := List.any_eq_true.2 ⟨a, List.mem_of_getElem? hj, idEq_iff.2 rfl⟩
      rw [hd.1] at this; cases this
    cases k with
    | zero =>
      cases k' with
      | zero => rfl
      | succ j' => simp at h h'; subst h; exact (no _ h').elim
    | succ j =>
      cases k' with
      | zero => simp at h h'; subst h'; exact (no _ h).elim
      | succ j' => simp at h h'; rw [distinctIds_get hd.2 h h']
theorem setL_not {id : Id} : ∀ {l : List Id} {cs : List (Option D)} {m : Id → Option D}, id ∉ l → setL m l cs id = m id
  | [], cs, m, _ => by cases cs <;> rfl
  | a :: r, [], m, _ => rfl
  | a :: r, c :: cs, m, h => by
    simp only [List.mem_cons, not_or] at h
    simp only [setL]
    rw [setL_not h.2]
    have : idEq a id = false := by
      rw [Bool.eq_false_iff]; intro e; exact h.1 (idEq_iff.1 e).symm
    rw [this]; rfl
theorem setL_at {id : Id} : ∀ {l : List Id} {cs : List (Option D)} {m : Id → Option D} {k : Nat}, distinctIds l = true → cs.length = l.length → l[k]? = some id → setL m l cs id = (cs[k]?).join
  | [], cs, m, k, _, _, h => by simp at h
  | a :: r, [], m, k, _, hl, h => by simp at hl
  | a :: r, c :: cs, m, 0, hd, hl, h => by
    simp only [List.getElem?_cons_zero, Option.some.injEq] at h
    subst h
    simp only [distinctIds, Bool.and_eq_true, Bool.not_eq_true'] at hd
    simp only [setL]
    have : a ∉ r := fun hm => by
      have : r.any (idEq a) = true := List.any_eq_true.2 ⟨a, hm, idEq_iff.2 rfl⟩
      rw [hd.1] at this; cases this
    rw [setL_not this, idEq_iff.2 rfl]
    simp
  | a :: r, c :: cs, m, k + 1, hd, hl, h => by
    simp only [distinctIds, Bool.and_eq_true] at hd
    simp only [setL]
    simp only [List.getElem?_cons_succ] at h ⊢
    exact setL_at hd.2 (by simpa using hl) h
theorem mapO_getO {α β : Type} {f : α → Option β} : ∀ {l : List α} {l' : List β}, mapO f l = some l' → ∀ (j : Nat), (∀ x, l[j]? = some x → ∃ y, l'[j]? = some y ∧ f x = some y) ∧ (∀ y, l'[j]? = some y → ∃ x, l[j]? = some x ∧ f x = some y)
  | [], l', h, j => by
    simp only [mapO, Option.some.injEq] at h
    subst h
    simp
  | x :: l, l', h, j => by
    simp only [mapO] at h
    split at h
    · rename_i y hy
      split at h
      · rename_i ys hys
        simp only [Option.some.injEq] at h
        subst h
        cases j with
        | zero => simpa using hy
        | succ j => simpa using mapO_getO hys j
      · cases h
    · cases h
theorem nth_join {ms : List (Option D)} {k : Nat} {c : D} (h : (nth ms k).join = some c) : ms[k]? = some (some c) := by
  rw [nth_eq] at h
  cases hk : ms[k]? with
  | none => rw [hk] at h; simp at h
  | some x => rw [hk] at h; simp at h; rw [h]
theorem lentM_some {ms : List D} {id : Id} {c : D} (h : lentM ms id = some c) : ∃ k, id = lentId k ∧ ms[k]? = some c ∧ id.1 < guardKey := by
  unfold lentM at h
  obtain ⟨x, y, z⟩ := id
  cases hc : (Nat.ble lentKey x && (Nat.blt x guardKey && (y == 0 && z == 0))) <;> simp only [hc, cond_true, cond_false] at h
  · cases h
  · simp only [Bool.and_eq_true, Nat.ble_eq, beq_iff_eq] at hc
    obtain ⟨h1, h2, rfl, rfl⟩ := hc
    have h2' : x < guardKey := by rw [Nat.blt_eq] at h2; exact h2 
    rw [nth_eq] at h
    exact ⟨x - lentKey, by unfold lentId; rw [show lentKey + (x - lentKey) = x by omega], h, h2'⟩
theorem outM_some {ms : List (Option D)} {news : List D} {id : Id} {c : D} (h : outM ms news id = some c) :
    (∃ k, id = lentId k ∧ ms[k]? = some (some c) ∧ id.1 < guardKey) ∨ (∃ j, id = (0, 0, j) ∧ news[j]? = some c) := by
  unfold outM at h
  obtain ⟨x, y, z⟩ := id
  cases h0 : Nat.ble lentKey x <;> simp only [h0, cond_true, cond_false] at h
  · cases hc : (x == 0 && y == 0) <;> simp only [hc, cond_true, cond_false] at h
    · cases h
    · simp only [Bool.and_eq_true, beq_iff_eq] at hc
      obtain ⟨rfl, rfl⟩ := hc
      rw [nth_eq] at h
      exact .inr ⟨z, rfl, h⟩
  · cases hc : (Nat.blt x guardKey && (y == 0 && z == 0)) <;> simp only [hc, cond_true, cond_false] at h
    · cases h
    · simp only [Bool.and_eq_true, beq_iff_eq] at hc
      obtain ⟨h2, rfl, rfl⟩ := hc
      have h1 : lentKey ≤ x := Nat.le_of_ble_eq_true h0
      have h2' : x < guardKey := by rw [Nat.blt_eq] at h2; exact h2
      exact .inl ⟨x - lentKey, by unfold lentId; rw [show lentKey + (x - lentKey) = x by omega], nth_join h, h2'⟩
theorem outM_lent {ms : List (Option D)} {news : List D} {k : Nat} {c : D} (h : ms[k]? = some (some c)) (hk : lentKey + k < guardKey) : outM ms news (lentId k) = some c := by
  unfold outM lentId
  have h1 : Nat.ble lentKey (lentKey + k) = true := by rw [Nat.ble_eq]; omega
  have h2 : Nat.blt (lentKey + k) guardKey = true := by rw [Nat.blt_eq]; exact hk
  simp only [h1, h2, cond_true, beq_self_eq_true, Bool.and_self]
  rw [nth_eq, show lentKey + k - lentKey = k by omega, h]; rfl
theorem outM_new {ms : List (Option D)} {news : List D} {j : Nat} {c : D} (h : news[j]? = some c) : outM ms news (0, 0, j) = some c := by
  unfold outM
  have h1 : Nat.ble lentKey 0 = false := by decide
  simp only [h1, cond_false, beq_self_eq_true, Bool.and_self, cond_true]
  rw [nth_eq, h]
theorem backC_some {f : Id → Option Id} {o : Option D} {c : D} (h : backC f o = some (some c)) : ∃ c0, o = some c0 ∧ mapD true f depth c0 = some c := by
  cases o with
  | none => simp [backC] at h
  | some c0 =>
    simp only [backC] at h
    split at h
    · rename_i c' hc'
      simp only [Option.some.injEq] at h
      subst h
      exact ⟨c0, rfl, hc'⟩
    · cases h

/-- Where a callee sees the blocks. -/
def locL (loc : Loc) (lend : List Id) : Loc := fun id =>
  if guardKey ≤ id.1 then loc (id.1 - guardKey, id.2.1, id.2.2)
  else if lentKey ≤ id.1 ∧ id.2.1 = 0 ∧ id.2.2 = 0 then (match lend[id.1 - lentKey]? with | some i => loc i | none => none) else none
theorem locL_guard (loc : Loc) (lend : List Id) (id : Id) : locL loc lend (guardKey + id.1, id.2.1, id.2.2) = loc id := by
  unfold locL
  rw [if_pos (by simp)]
  simp
theorem locL_lent {loc : Loc} {lend : List Id} {k : Nat} {id : Id} (h : lend[k]? = some id) (hk : lentKey + k < guardKey) : locL loc lend (lentId k) = loc id := by
  unfold locL lentId
  rw [if_neg (by simp only; omega), if_pos ⟨by simp, rfl, rfl⟩]
  simp only [show lentKey + k - lentKey = k by omega, h]
theorem locL_sub {loc : Loc} {lend : List Id} {id : Id} {l : Option Nat × Nat} (h : locL loc lend id = some l) : ∃ i, loc i = some l := by
  unfold locL at h
  split at h
  · exact ⟨_, h⟩
  · split at h
    · split at h
      · exact ⟨_, h⟩
      · cases h
    · cases h

section
variable {P : Program} {T : Types} {n bs : Nat} {w0 w : World} {l0 : Loc} {s : St} {a : Act} {loc : Loc}

/-- What a call that writes to lent blocks leaves. -/
theorem after_call (h : Inv P T n w0 bs l0 s a w loc) {lend : List Id} {ms : List D} {res : D} {ms' : List (Option D)} {news : List D} (hdist : distinctIds lend = true)
    {own : Bool} (hms : mapO (lendC own s.m (lendF lend)) lend = some ms) (hcount : lentKey + lend.length < guardKey) {w' : World} {y : Value} {locr : Loc} {bc : Nat} (hbc : bs ≤ bc) (hb : Back w w' bc (locL loc lend) res ms' news y locr)
    {i : Nat} (hi : i < lentKey) (bf : Id → Option Id) (hbf : ∀ id id', bf id = some id' → backF lend i (s.c i) id = some id') {ms2 : List (Option D)} {news2 : List D}
    (h2 : mapO (backC bf) ms' = some ms2) (h3 : mapO (mapD true bf depth) news = some news2) (hlen : ms2.length = lend.length) :
    Ext bs bs w loc w' (locR loc i (s.c i) fun j => locr (0, 0, j)) ∧
    (∀ d d2 z, mapD true bf depth d = some d2 → Rep w' bc locr d z → Rep w' bs (locR loc i (s.c i) fun j => locr (0, 0, j)) d2 z) ∧
    (∀ (t2 : Nat → D) (a2 : Act), a2.tmps.size = n → a2.defers = [] → (∀ j, Rep w' bs (locR loc i (s.c i) fun j => locr (0, 0, j)) (t2 j) (a2.tmps.getD j undef)) →
      Inv P T n w0 bs l0 { t := t2, m := updR (setL s.m lend ms2) i (s.c i) (fun j => nth news2 j), c := upd s.c i (s.c i + 1) } a2 w' (locR loc i (s.c i) fun j => locr (0, 0, j))) := by
  have hfr : ∀ id l, loc id = some l → id.1 = i → id.2.1 < s.c i := fun id l hl hk => by
    have := h.cnt id l hl (by rw [hk]; exact hi)
    rw [hk] at this; exact this
  have hkeep : ∀ id l, loc id = some l → (locR loc i (s.c i) fun j => locr (0, 0, j)) id = some l := by
    intro id l hl
    rw [locR_eq, if_neg]
    · exact hl
    · rintro ⟨g1, g2⟩; have := hfr id l hl g1; omega
  have hlend : ∀ (k : Nat) (id : Id), lend[k]? = some id → ∃ c, s.m id = some c := by
    intro k id hk
    obtain ⟨y, _, hy⟩ := (mapO_getO hms k).1 _ hk
    unfold lendC at hy
    split at hy
    · rename_i c hc; exact ⟨c, hc⟩
    · cases hy
  have hlt : ∀ (k : Nat) (id : Id), lend[k]? = some id → lentKey + k < guardKey := fun k id hk => by
    have := (List.getElem?_eq_some_iff.1 hk).1; omega
  have hch : ∀ b, chOf (locL loc lend) b → ∃ (k : Nat) (id : Id) (n : Nat) (c : D), lend[k]? = some id ∧ loc id = some (some b, n) ∧ s.m id = some c := by
    rintro b ⟨id, n, g1, g2, g3⟩
    unfold locL at g3
    rw [if_neg (by omega)] at g3
    split at g3
    · split at g3
      · rename_i i' hi'
        obtain ⟨c, hc⟩ := hlend _ _ hi'
        exact ⟨_, i', n, c, hi', g3, hc⟩
      · cases g3
    · cases g3
  have hchw : ∀ b, chOf (locL loc lend) b → w0.heap.size ≤ b ∨ chOf l0 b := by
    intro b hbb
    obtain ⟨k, id, n, c, g1, g2, g3⟩ := hch b hbb
    exact (h.range _ _ _ g2).1 (h.live _ _ g3)
  have hchs : ∀ b, chOf (locL loc lend) b → b < w.heap.size := by
    intro b hbb
    obtain ⟨k, id, n, c, g1, g2, g3⟩ := hch b hbb
    exact (h.range _ _ _ g2).2
  have havs : ∀ b, loc.avoids b → ¬ chOf (locL loc lend) b := by
    intro b hv hbb
    obtain ⟨k, id, n, c, g1, g2, g3⟩ := hch b hbb
    exact hv _ _ g2
  have hnew : ∀ j b n, locr (0, 0, j) = some (some b, n) → (w.heap.size ≤ b ∨ chOf (locL loc lend) b) ∧ b < w'.heap.size := fun j b n hl => hb.range _ _ _ hl (by show 0 < lentKey; decide)
  have hav2 : ∀ b, locr.avoids b → (locR loc i (s.c i) fun j => locr (0, 0, j)).avoids b := by
    intro b hv id n hl
    rw [locR_eq] at hl
    split at hl
    · exact hv _ _ hl
    · have := hb.keep (guardKey + id.1, id.2.1, id.2.2) (by simp only [guardKey, lentKey]; omega)
      rw [locL_guard] at this
      exact hv _ _ (this.trans hl)
  have hf2 : ∀ id id' l, bf id = some id' → locr id = some l → (locR loc i (s.c i) fun j => locr (0, 0, j)) id' = some l := by
    intro id id' l hbfi hl
    have hback := hbf _ _ hbfi
    unfold backF at hback
    obtain ⟨x, y, z⟩ := id
    cases hc0 : Nat.ble lentKey x <;> simp only [hc0, cond_true, cond_false] at hback
    · cases hc : (x == 0 && y == 0) <;> simp only [hc, cond_true, cond_false] at hback
      · cases hback
      · simp only [Bool.and_eq_true, beq_iff_eq] at hc
        obtain ⟨rfl, rfl⟩ := hc
        simp only [Option.some.injEq] at hback
        subst hback
        rw [locR_eq, if_pos ⟨rfl, rfl⟩]
        exact hl
    · cases hc : (Nat.blt x guardKey && (y == 0 && z == 0)) <;> simp only [hc, cond_true, cond_false] at hback
      · cases hback
      · simp only [Bool.and_eq_true, beq_iff_eq] at hc
        obtain ⟨g1, rfl, rfl⟩ := hc
        have g0 : lentKey ≤ x := Nat.le_of_ble_eq_true hc0
        rw [nth_eq] at hback
        have hx : ((x, 0, 0) : Id) = lentId (x - lentKey) := by unfold lentId; rw [show lentKey + (x - lentKey) = x by omega]
        have := hb.keep (x, 0, 0) g0
        rw [hx, locL_lent hback (hlt _ _ hback), ← hx] at this
        exact hkeep _ _ (this.symm.trans hl)
  have hext : Ext bs bs w loc w' (locR loc i (s.c i) fun j => locr (0, 0, j)) := by
    refine ⟨Nat.le_refl _, hkeep, ?_, ?_⟩
    · intro b k e fr hk hv
      have hbl : b < w.heap.size := (Array.getElem?_eq_some_iff.1 hk).1
      refine ⟨by rw [hb.same.block b hbl (havs b hv)]; exact hk, ?_⟩
      intro id n hl
      rw [locR_eq] at hl
      split at hl
      · rcases (hnew _ _ _ hl).1 with g | g
        · omega
        · exact havs b hv g
      · exact hv _ _ hl
    · intro id b n k e fr hl hk
      exact hb.same.grow b k e fr hk
  have hmap : ∀ d d2 z, mapD true bf depth d = some d2 → Rep w' bc locr d z → Rep w' bs (locR loc i (s.c i) fun j => locr (0, 0, j)) d2 z :=
    fun d d2 z hm hr => mapD_sound hf2 hav2 (fun _ => hbc) depth d d2 z hm hr
  refine ⟨hext, hmap, ?_⟩
  intro t2 a2 hs2 hd2 ht2
  -- the contents behind the call, by the callee's names
  have hcont : ∀ id c, updR (setL s.m lend ms2) i (s.c i) (fun j => nth news2 j) id = some c →
      (∃ id0 c0, outM ms' news id0 = some c0 ∧ mapD true bf depth c0 = some c ∧ (∀ l, locr id0 = some l → (locR loc i (s.c i) fun j => locr (0, 0, j)) id = some l) ∧
        ((∃ j, id0 = (0, 0, j) ∧ id.1 = i ∧ id.2.1 = s.c i ∧ id.2.2 = j) ∨ (∃ k, id0 = lentId k ∧ lend[k]? = some id ∧ ¬ (id.1 = i ∧ id.2.1 = s.c i)))) ∨
      (s.m id = some c ∧ id ∉ lend ∧ ¬ (id.1 = i ∧ id.2.1 = s.c i)) := by
    intro id c hc
    rw [updR_eq] at hc
    split at hc
    · rename_i hid
      rw [nth_eq] at hc
      obtain ⟨c0, g1, g2⟩ := (mapO_getO h3 _).2 _ hc
      left
      refine ⟨(0, 0, id.2.2), c0, outM_new g1, g2, ?_, .inl ⟨_, rfl, hid.1, hid.2, rfl⟩⟩
      intro l hl
      rw [locR_eq, if_pos hid]; exact hl
    · rename_i hid
      by_cases hmem : id ∈ lend
      · obtain ⟨k, hk⟩ := List.mem_iff_getElem?.1 hmem
        rw [setL_at hdist hlen hk] at hc
        have hc' : ms2[k]? = some (some c) := by rw [← nth_eq] at hc; exact nth_join hc
        obtain ⟨o, g1, g2⟩ := (mapO_getO h2 k).2 _ hc'
        obtain ⟨c0, rfl, g3⟩ := backC_some g2
        left
        refine ⟨lentId k, c0, outM_lent g1 (hlt _ _ hk), g3, ?_, .inr ⟨k, rfl, hk, hid⟩⟩
        intro l hl
        have := hb.keep (lentId k) (by simp [lentId])
        rw [locL_lent hk (hlt _ _ hk)] at this
        exact hkeep _ _ (this.symm.trans hl)
      · rw [setL_not hmem] at hc
        exact .inr ⟨hc, hmem, hid⟩
  have hother : ∀ id c b n, s.m id = some c → id ∉ lend → loc id = some (some b, n) → ¬ chOf (locL loc lend) b := by
    intro id c b n hc hmem hl hbb
    obtain ⟨k, id', n', c', g1, g2, g3⟩ := hch b hbb
    have := h.inj _ _ _ _ _ _ _ hc g3 hl g2
    subst this
    exact hmem (List.mem_of_getElem? g1)
  refine ⟨h.types, h.low, (fun e => h.solo (by simp only at e; rw [upd_eq, if_neg (by omega)] at e; exact e)), hs2, h.small, hd2, ?_, ht2, ?_, ?_, ?_, ?_, ?_, ?_, h.glob.ext hext⟩
  · refine ⟨hb.same.os.trans h.same.os, hb.same.tape.trans h.same.tape, hb.same.output.trans h.same.output, Nat.le_trans h.same.size hb.same.size, ?_, ?_⟩
    · intro k hk hc
      rw [hb.same.block k (Nat.lt_of_lt_of_le hk h.same.size) ?_, h.same.block k hk hc]
      intro hbb
      rcases hchw k hbb with g | g
      · omega
      · exact hc g
    · intro b k e fr hk
      obtain ⟨k', e', fr', g1, g2⟩ := h.same.grow b k e fr hk
      obtain ⟨k2, e2, fr2, g3, g4⟩ := hb.same.grow b k' e' fr' g1
      exact ⟨k2, e2, fr2, g3, Nat.le_trans g2 g4⟩
  · intro id c hc
    rcases hcont id c hc with ⟨id0, c0, g1, g2, g3, _⟩ | ⟨g1, g2, g3⟩
    · obtain ⟨l, xs, q1, q2, q3⟩ := hb.mem id0 c0 g1
      exact ⟨l, xs, g3 _ q1, .inl ⟨hmap _ _ _ g2 q2, q3⟩⟩
    · obtain ⟨l, xs, q1, q2⟩ := h.mem id c g1
      refine ⟨l, xs, hkeep _ _ q1, q2.ext hext (fun q3 => ?_) fun b o hlb ho _ => ?_⟩
      · cases l with
        | none => exact q3
        | some b =>
          obtain ⟨kk, e, r1, r2⟩ := q3
          exact ⟨kk, e, by rw [hb.same.block b (h.range _ _ _ q1).2 (hother id c b _ g1 g2 q1)]; exact r1, r2⟩
      · subst hlb
        rw [hb.same.block b (h.range _ _ _ q1).2 (hother id c b _ g1 g2 q1)]; exact ho
  · intro id l hl hk
    rw [locR_eq] at hl
    simp only
    rw [upd_eq]
    split at hl
    · rename_i hid; rw [if_pos hid.1]; omega
    · have := h.cnt id l hl hk
      split
      · rename_i hid; rw [hid] at this; omega
      · exact this
  · intro id b k hl
    rw [locR_eq] at hl
    split at hl
    · rename_i hid
      obtain ⟨g1, g2⟩ := hnew _ _ _ hl
      refine ⟨fun _ => ?_, g2⟩
      rcases g1 with g | g
      · exact .inl (Nat.le_trans h.same.size g)
      · exact hchw _ g
    · obtain ⟨g1, g2⟩ := h.range _ _ _ hl
      exact ⟨g1, Nat.lt_of_lt_of_le g2 hb.same.size⟩
  · intro id c hc
    rcases hcont id c hc with ⟨id0, c0, g1, g2, g3, g4⟩ | ⟨g1, g2, g3⟩
    · rcases g4 with ⟨j, _, q1, _, _⟩ | ⟨k, _, q1, _⟩
      · rw [q1]; exact Nat.lt_trans hi (by decide)
      · obtain ⟨c', hc'⟩ := hlend _ _ q1
        exact h.live _ _ hc'
    · exact h.live _ _ g1
  · intro id hid
    rw [locR_eq, if_neg]
    · exact h.lent id hid
    · rintro ⟨g1, _⟩
      have := hi
      omega
  · intro id id' c c' b k k' hc hc' hl hl'
    have low : ∀ id0 c0, outM ms' news id0 = some c0 → ∀ l, locr id0 = some l → ∃ l', l = l' := fun _ _ _ l _ => ⟨l, rfl⟩
    have where_ : ∀ id c b k, updR (setL s.m lend ms2) i (s.c i) (fun j => nth news2 j) id = some c → (locR loc i (s.c i) fun j => locr (0, 0, j)) id = some (some b, k) →
        (∃ id0 c0, outM ms' news id0 = some c0 ∧ locr id0 = some (some b, k) ∧ ((∃ j, id0 = (0, 0, j) ∧ id.1 = i ∧ id.2.1 = s.c i ∧ id.2.2 = j) ∨ (∃ k, id0 = lentId k ∧ lend[k]? = some id ∧ ¬ (id.1 = i ∧ id.2.1 = s.c i)))) ∨
        (s.m id = some c ∧ id ∉ lend ∧ loc id = some (some b, k)) := by
      intro id c b k hc hl
      rcases hcont id c hc with ⟨id0, c0, g1, g2, g3, g4⟩ | ⟨g1, g2, g3⟩
      · left
        obtain ⟨l, xs, q1, _, _⟩ := hb.mem id0 c0 g1
        have := g3 _ q1
        rw [hl] at this
        cases this
        exact ⟨id0, c0, g1, q1, g4⟩
      · right
        rw [locR_eq, if_neg g3] at hl
        exact ⟨g1, g2, hl⟩
    have bnew : ∀ id0 c0 b k, outM ms' news id0 = some c0 → locr id0 = some (some b, k) → w.heap.size ≤ b ∨ chOf (locL loc lend) b := by
      intro id0 c0 b k g1 g2
      rcases outM_some g1 with ⟨kk, rfl, q1, q2⟩ | ⟨j, rfl, q1⟩
      · right
        refine ⟨lentId kk, k, by simp [lentId], q2, ?_⟩
        rw [← hb.keep _ (by simp [lentId])]; exact g2
      · exact (hnew _ _ _ g2).1
    rcases where_ id c b k hc hl with ⟨id0, c0, g1, g2, g3⟩ | ⟨g1, g2, g3⟩ <;> rcases where_ id' c' b k' hc' hl' with ⟨id0', c0', g1', g2', g3'⟩ | ⟨g1', g2', g3'⟩
    · have := hb.inj _ _ _ _ _ _ _ g1 g1' g2 g2'
      subst this
      rcases g3 with ⟨j, rfl, q1, q2, q3⟩ | ⟨kk, rfl, q1, q2⟩ <;> rcases g3' with ⟨j', e, q1', q2', q3'⟩ | ⟨kk', e, q1', q2'⟩
      · obtain ⟨x, y, z⟩ := id
        obtain ⟨x', y', z'⟩ := id'
        simp only [Prod.mk.injEq, true_and] at e q1 q2 q3 q1' q2' q3'
        rw [q1, q2, q3, q1', q2', q3', e]
      · simp [lentId, lentKey] at e; omega
      · simp [lentId, lentKey] at e
      · have : kk = kk' := by simp [lentId] at e; exact e
        subst this
        rw [q1] at q1'
        exact Option.some.inj q1'
    · exfalso
      rcases bnew _ _ _ _ g1 g2 with q | q
      · have := (h.range _ _ _ g3').2; omega
      · exact hother _ _ _ _ g1' g2' g3' q
    · exfalso
      rcases bnew _ _ _ _ g1' g2' with q | q
      · have := (h.range _ _ _ g3).2; omega
      · exact hother _ _ _ _ g1 g2 g3 q
    · exact h.inj _ _ _ _ _ _ _ g1 g1' g3 g3'

/-- A CALL THAT WRITES TO LENT BLOCKS. -/
theorem callM_sound {o : Oper} {f : Operand} {args : Array Operand} {ts : Array TypeId} {K : St → Prop} (h : Inv P T n w0 bs l0 s a w loc) (hd : ∀ i, o.dst = some i → i < n)
    (ho : o.op = .call { callee := .value f, args, argTypes := ts }) {own : Bool} (hk : callMK own P s (s.ev f) (args.toList.map s.ev) o.dst K) :
    Done P o a w fun y w' => ∃ s' loc', K s' ∧ Inv P T n w0 bs l0 s' (a.put o.dst y) w' loc' := by
  have go : ∀ {g : FuncId} {first caps : List D}, s.ev f = .fn (.func g) first caps → ∀ {lend : List Id} {dargs ms : List D} {res : D} {ms' : List (Option D)} {news : List D}, distinctIds lend = true →
      mapO (mapD own (lendF lend) depth) (first ++ (args.toList.map s.ev ++ caps)) = some dargs → mapO (lendC own s.m (lendF lend)) lend = some ms → SatB own P g dargs ms res ms' news → lentKey + lend.length < guardKey →
      ∀ R : Value → World → Prop, (∀ y w' locr bc, bs ≤ bc → Back w w' bc (locL loc lend) res ms' news y locr → R y w') → Done P o a w R := by
    intro g first caps hf lend dargs ms res ms' news hdist h1 hms hsat hcount R hR
    obtain ⟨⟨fn, c, hfn, hbody, hname⟩, hsat⟩ := hsat
    have hev := h.ev f
    rw [hf] at hev
    simp only [Rep] at hev
    obtain ⟨fa, cb, hval, hfa, hcb⟩ := hev
    have hlt : ∀ (k : Nat) (id : Id), lend[k]? = some id → lentKey + k < guardKey := fun k id hk => by
      have := (List.getElem?_eq_some_iff.1 hk).1; omega
    have hf1 : ∀ id id' l, lendF lend id = some id' → loc id = some l → locL loc lend id' = some l := by
      intro id id' l hfi hl
      obtain ⟨k, rfl, hk⟩ := lendF_some hfi
      rw [locL_lent hk (hlt _ _ hk)]; exact hl
    have hav1 : ∀ b, loc.avoids b → (locL loc lend).avoids b := by
      intro b hv id n hl
      obtain ⟨i, hi⟩ := locL_sub hl
      exact hv _ _ hi
    obtain ⟨bc, hbc1, hbc2, hbc3, hbc4⟩ : ∃ bc, bs ≤ bc ∧ bc ≤ w.heap.size ∧ (own = true → bc ≤ bs) ∧ (own = false → bc = w.heap.size) := by
      have hle := Nat.le_trans h.low.1 h.same.size
      cases own
      · exact ⟨w.heap.size, hle, Nat.le_refl _, (by simp), fun _ => rfl⟩
      · exact ⟨bs, Nat.le_refl _, hle, fun _ => Nat.le_refl _, (by simp)⟩
    have hmap : ∀ d d' y, mapD own (lendF lend) depth d = some d' → Rep w bs loc d y → Rep w bc (locL loc lend) d' y :=
      fun d d' y hm hr => mapD_sound hf1 hav1 hbc3 depth d d' y hm hr
    have hargs : RepL w bc (locL loc lend) dargs (fa ++ (args.toList.map a.eval ++ cb)) :=
      mapO_rep hmap h1 (hfa.append ((evs_rep h.ev _).append hcb))
    have hlent : Lent w bc (locL loc lend) ms := by
      have cont : ∀ id c, lentM ms id = some c → ∃ (k : Nat) (id0 : Id) (c0 : D), id = lentId k ∧ lend[k]? = some id0 ∧ s.m id0 = some c0 ∧ mapD own (lendF lend) depth c0 = some c := by
        intro id c hc
        obtain ⟨k, rfl, hk, _⟩ := lentM_some hc
        obtain ⟨id0, g1, g2⟩ := (mapO_getO hms k).2 _ hk
        unfold lendC at g2
        split at g2
        · rename_i c0 hc0; exact ⟨k, id0, c0, rfl, g1, hc0, g2⟩
        · cases g2
      refine ⟨?_, ?_, ?_, ?_⟩
      · intro id l hl
        unfold locL at hl
        split at hl
        · rename_i hg; exact Nat.le_trans (by decide) hg
        · split at hl
          · rename_i hg; exact hg.1
          · cases hl
      · intro id c hc
        obtain ⟨k, id0, c0, rfl, g1, g2, g3⟩ := cont id c hc
        obtain ⟨l, xs, q1, q23⟩ := h.mem id0 c0 g2
        obtain ⟨q2, q3⟩ := q23.cells (by rintro z rfl; simp [mapD, depth] at g3)
        exact ⟨l, xs, by rw [locL_lent g1 (hlt _ _ g1)]; exact q1, hmap _ _ _ g3 q2, q3⟩
      · intro id b n hl
        obtain ⟨i, hi⟩ := locL_sub hl
        exact (h.range _ _ _ hi).2
      · intro id id' c c' b n n' hc hc' hl hl'
        obtain ⟨k, id0, c0, rfl, g1, g2, g3⟩ := cont id c hc
        obtain ⟨k', id0', c0', rfl, g1', g2', g3'⟩ := cont id' c' hc'
        rw [locL_lent g1 (hlt _ _ g1)] at hl
        rw [locL_lent g1' (hlt _ _ g1')] at hl'
        have := h.inj _ _ _ _ _ _ _ g2 g2' hl hl'
        subst this
        rw [distinctIds_get hdist g1 g1']
    refine .inr (.inr ⟨g, ⟨fa ++ (args.toList.map a.eval ++ cb)⟩, w, ?_, ?_⟩)
    · have hn' : ¬ fn.name = "runtime.NumGoroutine" := by simpa using hname
      have e : (⟨fa⟩ ++ (args.map a.eval ++ ⟨cb⟩) : Array Value) = ⟨fa ++ (args.toList.map a.eval ++ cb)⟩ := by
        apply Array.ext'; simp
      simp [execOp, ho, resolve, hval, Deferred.ofValue, invoke, callFunc, hfn, hn', hbody, e]
    · refine (hsat w _ _ bc hbc2 hbc4 (h.glob.loc hav1) hlent hargs).mono ?_
      rintro e w' ⟨y, locr, rfl, hb⟩
      exact ⟨y, rfl, hR y w' locr bc hbc1 hb⟩
  unfold callMK at hk
  split at hk
  · rename_i g first caps i hf hdst
    obtain ⟨lend, dargs, ms, res, ms', news, res2, ms2, news2, hcount, hdist, h1, hms, hsat, h4, h2, h3, hlen, hK⟩ := hk
    refine go hf hdist h1 hms hsat (by have := Nat.le_of_ble_eq_true hcount; simp only [lentKey, guardKey]; omega) (fun y w' => ∃ s' loc', K s' ∧ Inv P T n w0 bs l0 s' (a.put o.dst y) w' loc') ?_
    intro y w' locr bc hbc hb
    have hi := hd i hdst
    obtain ⟨hext, hmap, hinv⟩ := after_call h hdist hms (by have := Nat.le_of_ble_eq_true hcount; simp only [lentKey, guardKey]; omega) hbc hb (Nat.lt_of_lt_of_le hi h.small) _ (fun _ _ e => e) h2 h3 hlen
    refine ⟨s.callM i lend res2 ms2 news2, locR loc i (s.c i) (fun j => locr (0, 0, j)), hK, ?_⟩
    rw [hdst]
    exact hinv _ _ (by simp [Act.put, h.size]) h.defers (tmps_put hext h.tmp (by rw [h.size]; exact hi) (hmap _ _ _ h4 hb.rep))
  · rename_i g first caps hf hdst
    obtain ⟨lend, dargs, ms, res, ms', ms2, hcount, hdist, h1, hms, hsat, h2, hlen, hK⟩ := hk
    refine go hf hdist h1 hms hsat (by have := Nat.le_of_ble_eq_true hcount; simp only [lentKey, guardKey]; omega) (fun y w' => ∃ s' loc', K s' ∧ Inv P T n w0 bs l0 s' (a.put o.dst y) w' loc') ?_
    intro y w' locr bc hbc hb
    have hbf : ∀ id id', backL lend id = some id' → backF lend 0 (s.c 0) id = some id' := by
      intro id id' e
      unfold backL at e
      cases hc : Nat.ble lentKey id.1 <;> simp only [hc, cond_true, cond_false] at e
      · cases e
      · unfold backF at e ⊢
        rw [hc] at e ⊢
        exact e
    obtain ⟨hext, hmap, hinv⟩ := after_call h hdist hms (by have := Nat.le_of_ble_eq_true hcount; simp only [lentKey, guardKey]; omega) hbc hb (show 0 < lentKey by decide) _ hbf h2 (news2 := []) rfl hlen
    refine ⟨_, locR loc 0 (s.c 0) (fun j => locr (0, 0, j)), hK, ?_⟩
    rw [hdst]
    have := hinv s.t a h.size h.defers (fun j => Rep.ext hext _ _ (h.tmp j))
    have hnone : ∀ id : Id, id.1 = 0 → id.2.1 = s.c 0 → loc id = none := by
      intro id e1 e2
      cases hl : loc id with
      | none => rfl
      | some l =>
        have := h.cnt id l hl (by rw [e1]; decide)
        rw [e1] at this; omega
    have hnone2 : ∀ j, locr (0, 0, j) = none := by
      intro j
      cases hl : locr (0, 0, j) with
      | none => rfl
      | some l =>
        have := (hb.key _ _ hl (by show 0 < lentKey; decide)).2.2
        simp at this
    have hup : ∀ id c, setL s.m lend ms2 id = some c → updR (setL s.m lend ms2) 0 (s.c 0) (fun j => nth ([] : List D) j) id = some c := by
      intro id c hc
      rw [updR_eq, if_neg]
      · exact hc
      · rintro ⟨e1, e2⟩
        have hl := hnone id e1 e2
        by_cases hm : id ∈ lend
        · obtain ⟨k, hk⟩ := List.mem_iff_getElem?.1 hm
          obtain ⟨y, _, hy⟩ := (mapO_getO hms k).1 _ hk
          unfold lendC at hy
          split at hy
          · rename_i c' hc'
            obtain ⟨l, xs, q, _⟩ := h.mem id c' hc'
            rw [hl] at q; cases q
          · cases hy
        · rw [setL_not hm] at hc
          obtain ⟨l, xs, q, _⟩ := h.mem id c hc
          rw [hl] at q; cases q
    refine ⟨this.types, this.low, h.solo, this.size, this.small, this.defers, this.same, this.tmp, fun id c hc => this.mem id c (hup id c hc), ?_, this.range, fun id c hc => this.live id c (hup id c hc), this.lent,
      fun id id' c c' b k k' hc hc' hl hl' => this.inj id id' c c' b k k' (hup id c hc) (hup id' c' hc') hl hl', this.glob⟩
    intro id l hl hk
    rw [locR_eq] at hl
    split at hl
    · rw [hnone2] at hl; cases hl
    · exact h.cnt id l hl hk
  · exact hk.elim
end
end Go.V
