/- The abstract states are sound, eighth part: an append. -/
import Derived.Test.YtndlknhakdadjaaV8
set_option linter.unusedVariables false
set_option linter.unusedSimpArgs false
namespace Go.V

section
variable {P : Program} {T : Types} {n : Nat} {w0 w : World} {l0 : Loc} {s : St} {a : Act} {loc : Loc} {base : Nat}

theorem At.heap {w W : World} (h : W.heap = w.heap) {b o : Nat} {xs : List Value} (ha : At w b o xs) : At W b o xs := by
  obtain ⟨k, e, fr, h1, h2⟩ := ha
  exact ⟨k, e, fr, by rw [h]; exact h1, h2⟩

theorem first_sound {sz m : Nat} {aa : Option Addr} {cap : Nat} {xs : List Value} (hl : xs.length = m * sz) (hat : xs.length = 0 ∨ ∃ b o, aa = some ⟨b, o, none⟩ ∧ At w b o xs) (W : World) (hW : W.heap = w.heap) :
    (Builtin.firstCells sz m (.slice aa m cap)).run P W = .ok ⟨xs⟩ W := by
  cases aa with
  | none =>
    rcases hat with h | ⟨b, o, h, _⟩
    · have : xs = [] := List.eq_nil_of_length_eq_zero h
      subst this
      simp [Builtin.firstCells]
    · cases h
  | some q =>
    simp only [Builtin.firstCells]
    rcases hat with h | ⟨b, o, h, hat⟩
    · have : xs = [] := List.eq_nil_of_length_eq_zero h
      subst this
      rw [← hl]
      simp [loadCells, loadCellsFrom]
    · cases h
      rw [← hl]
      exact run_loadCells_at (hat.heap hW)

theorem srcOf_sound (hm : MemOk w base loc s.m) {sz : Nat} {y cy : D} {v : Value} {m : Nat} (h : srcOf s sz y = some (cy, m)) (hy : Rep w base loc y v) :
    ∃ news, Rep w base loc cy (.agg ⟨news⟩) ∧ news.length = m * sz ∧ (∀ W, (Builtin.lenOf v).run P W = .ok m W) ∧ ∀ W : World, W.heap = w.heap → (Builtin.firstCells sz m v).run P W = .ok ⟨news⟩ W := by
  unfold srcOf at h
  split at h
  · rename_i b
    cases hs : (sz == 1) <;> simp only [hs, cond_true, cond_false] at h
    · simp at h
    · simp only [beq_iff_eq] at hs
      subst hs
      simp only [Option.some.injEq, Prod.mk.injEq] at h
      obtain ⟨rfl, rfl⟩ := h
      simp only [Rep] at hy
      obtain ⟨rfl, _⟩ := hy
      refine ⟨byteVals b, ?_, by simp [byteVals], fun W => rfl, fun W _ => ?_⟩
      · simp only [Rep, true_and, Flat, List.all_eq_true, byteVals, List.mem_map]
        rintro x ⟨y, _, rfl⟩
        rfl
      · have hx : (b.extract 0 b.size) = b := by simp
        simp only [Builtin.firstCells, hx, Sem.run_pure]
        congr 1
        apply Array.ext'
        simp [byteVals]
  · simp only [Option.some.injEq, Prod.mk.injEq] at h
    obtain ⟨rfl, rfl⟩ := h
    simp only [Rep] at hy
    obtain ⟨rfl, _⟩ := hy
    exact ⟨[], by simp [Rep, Flat], by simp, fun W => rfl, fun W _ => rfl⟩
  · split at h
    · rename_i mm c k sz' hc hl hs
      cases hq : (sz == sz') <;> simp only [hq, cond_true, cond_false] at h
      · simp at h
      · simp only [beq_iff_eq] at hq
        subst hq
        simp only [Option.some.injEq, Prod.mk.injEq] at h
        obtain ⟨rfl, rfl⟩ := h
        obtain ⟨aa, cap, xs, rfl, hle, hr, hlen, hat⟩ := contOf_sound hm hy hc hl (.inl hs)
        exact ⟨xs, hr, hlen hs, fun W => rfl, fun W hW => first_sound (hlen hs) hat W hW⟩
    · simp at h

theorem catC_sound {cx cy c : D} {xs ys : List Value} (h : catC cx cy = some c) (hx : Rep w base loc cx (.agg ⟨xs⟩)) (hy : Rep w base loc cy (.agg ⟨ys⟩)) : Rep w base loc c (.agg ⟨xs ++ ys⟩) := by
  unfold catC at h
  split at h
  · simp only [Option.some.injEq] at h
    subst h
    simp only [Rep, Value.agg.injEq] at hx hy ⊢
    obtain ⟨rfl, h1⟩ := hx
    obtain ⟨rfl, h2⟩ := hy
    simp only [Flat, List.all_append, true_and] at h1 h2 ⊢
    simp [h1, h2]
  · split at h
    · rename_i p q hp hq
      simp only [Option.some.injEq] at h
      subst h
      obtain ⟨h1, h2⟩ := hx.asList hp
      obtain ⟨h3, h4⟩ := hy.asList hq
      rw [Rep]
      exact ⟨_, rfl, h1.append h3, by simp only [List.all_append, h2, h4, Bool.and_self]⟩
    · simp at h

/-- Where it does not fit: a new row. -/
theorem run_append_new (hT : TOk P T) {t t' e : TypeId} {ti : TI} {d' : TypeDesc} (ht : P.underlying t = some (.slice e)) (hte : T e = some ti) (ht' : P.underlying t' = some d') (hni : ∀ k, d' ≠ .int k)
    {aa : Option Addr} {len cap m : Nat} {x : Value} {olds news : List Value} (hold : ∀ W : World, W.heap = w.heap → (Builtin.firstCells ti.size len (.slice aa len cap)).run P W = .ok ⟨olds⟩ W)
    (hlen : ∀ W, (Builtin.lenOf x).run P W = .ok m W) (hnew : ∀ W : World, W.heap = w.heap → (Builtin.firstCells ti.size m x).run P W = .ok ⟨news⟩ W)
    (hg : cap < len + m) (hb : (len + m) * ti.bytes ≤ 140737488355328) (hb2 : len + m ≤ 140737488355328) :
    ∃ cap' more, len + m ≤ cap' ∧ more.length = (cap' - (len + m)) * ti.size ∧ ∀ ty, (Builtin.append_ #[t, t'] ty #[.slice aa len cap, x]).run P w = .ok (.slice (some ⟨w.heap.size, 0, none⟩) (len + m) cap') (w.drew.alloc (.cells ⟨olds ++ news ++ more⟩ e (0, 0))) := by
  obtain ⟨i, i1, i2, i3, i4⟩ := (hT e ti hte).info
  have hzs := (hT e ti hte).size
  refine ⟨grownCap w (len + m) cap e, (Builtin.zeroCells ti.zero.cells (grownCap w (len + m) cap e - (len + m))).toList, ?_, ?_, ?_⟩
  · unfold grownCap; simp [Question.cut]
  · simp [Builtin.zeroCells, hzs]
  · intro ty
    have hnot : ¬ (len + m ≤ cap) := by omega
    have h63' : ¬ (9223372036854775807 < ((len : Int) + (m : Int))) := by omega
    have hfit := growslice_fits hg hb
    have h48' : ¬ (281474976710656 < Builtin.nextslicecap (len + m) cap * i.bytes) := by rw [i3]; omega
    have hzero : (match d' with | .int _ => true | _ => false) = false := by
      cases d' <;> first | rfl | exact absurd rfl (hni _)
    have ho := hold w.drew rfl
    have hn := hnew w.drew rfl
    rw [← i2] at ho hn
    simp [Builtin.append_, run_underlying ht, run_underlying ht', sizeOf, typeInfo, zeroValue, i1, i4, hlen, hnot, h63', h48', hzero, Question.forced, ho, hn, newRow, grownCap]
    congr 2
    apply Array.ext'
    simp

/-- Where it fits. -/
theorem run_append_fits' (hT : TOk P T) {t t' e ty : TypeId} {ti : TI} {d' : TypeDesc} (ht : P.underlying t = some (.slice e)) (hte : T e = some ti) (ht' : P.underlying t' = some d') (hni : ∀ k, d' ≠ .int k)
    {b : Nat} {len cap m : Nat} {x : Value} {news : List Value} {k : Array Value} {e' : TypeId} (hk : w.heap[b]? = some (.cells k e' (0, 0)))
    (hlen : ∀ W, (Builtin.lenOf x).run P W = .ok m W) (hnew : ∀ W : World, W.heap = w.heap → (Builtin.firstCells ti.size m x).run P W = .ok ⟨news⟩ W)
    (hg : len + m ≤ cap) (hroom : len * ti.size + news.length ≤ k.size) (hone : ∀ v ∈ news, v.oneCell' = true) :
    (Builtin.append_ #[t, t'] ty #[.slice (some ⟨b, 0, none⟩) len cap, x]).run P w = .ok (.slice (some ⟨b, 0, none⟩) (len + m) cap) (w.setRow b ⟨splice k.toList (len * ti.size) news⟩) := by
  obtain ⟨i, i1, i2, i3, i4⟩ := (hT e ti hte).info
  have hzero : (match d' with | .int _ => true | _ => false) = false := by
    cases d' <;> first | rfl | exact absurd rfl (hni _)
  have hn := hnew w rfl
  have hrun := run_storeCells_at P b (len * ti.size) e' news 0 k w hk (by omega) hone
  have e1 : (cur : Nat) → (⟨b, 0, none⟩ : Addr).add cur = ⟨b, cur, none⟩ := fun cur => by rw [addr_add, Nat.zero_add]
  rw [← i2] at hn hrun
  simp [Builtin.append_, run_underlying ht, run_underlying ht', sizeOf, typeInfo, i1, hlen, hg, hzero, hn, e1, hrun]
  rw [i2]
  simp [splice]

theorem run_append_nothing' (hT : TOk P T) {t t' e ty : TypeId} {ti : TI} {d' : TypeDesc} (ht : P.underlying t = some (.slice e)) (hte : T e = some ti) (ht' : P.underlying t' = some d') (hni : ∀ k, d' ≠ .int k)
    {aa : Option Addr} {x : Value} (hlen : ∀ W, (Builtin.lenOf x).run P W = .ok 0 W) (hnew : ∀ W : World, W.heap = w.heap → (Builtin.firstCells ti.size 0 x).run P W = .ok ⟨[]⟩ W) :
    (Builtin.append_ #[t, t'] ty #[.slice aa 0 0, x]).run P w = .ok (.slice aa 0 0) w := by
  obtain ⟨i, i1, i2, i3, i4⟩ := (hT e ti hte).info
  have hzero : (match d' with | .int _ => true | _ => false) = false := by
    cases d' <;> first | rfl | exact absurd rfl (hni _)
  have hn := hnew w rfl
  rw [← i2] at hn
  cases aa with
  | none => simp [Builtin.append_, run_underlying ht, run_underlying ht', sizeOf, typeInfo, i1, hlen, hzero, hn]
  | some q => simp [Builtin.append_, run_underlying ht, run_underlying ht', sizeOf, typeInfo, i1, hlen, hzero, hn, storeCells]

theorem Inv.kill (h : Inv P T n w0 l0 s a w loc) (id : Id) : Inv P T n w0 l0 { s with m := updI s.m id none } a w loc where
  types := h.types
  size := h.size
  small := h.small
  defers := h.defers
  same := h.same
  tmp := h.tmp
  mem id' c hc := by
    simp only at hc
    rw [updI_eq] at hc
    split at hc
    · cases hc
    · exact h.mem id' c hc
  cnt := h.cnt
  range := h.range
  live id' c hc := by
    simp only at hc
    rw [updI_eq] at hc
    split at hc
    · cases hc
    · exact h.live id' c hc
  lent := h.lent
  inj id' id'' c c' b k k' hc hc' hl hl' := by
    simp only at hc hc'
    rw [updI_eq] at hc hc'
    split at hc
    · cases hc
    · split at hc'
      · cases hc'
      · exact h.inj _ _ _ _ _ _ _ hc hc' hl hl'

theorem under_of {t : TypeId} {i : TI} (hT : TOk P T) (h : T t = some i) (hni : ∀ k, i.u ≠ .int k) : ∃ d, P.underlying t = some d ∧ ∀ k, d ≠ .int k := by
  have := (hT t i h).und
  cases hh : i.u <;> rw [hh] at this <;> simp only [UOk] at this
  case int k => exact absurd hh (hni k)
  case ptr => obtain ⟨e, this⟩ := this; exact ⟨_, this, by simp⟩
  case struct => obtain ⟨e, this, _⟩ := this; exact ⟨_, this, by simp⟩
  case func => obtain ⟨e, f, g, this⟩ := this; exact ⟨_, this, by simp⟩
  case tup => obtain ⟨e, this⟩ := this; exact ⟨_, this, by simp⟩
  all_goals exact ⟨_, this, by simp⟩

/-- A new block of appended cells, as an effect. -/
theorem new_eff (h : Inv P T n w0 l0 s a w loc) {i : Nat} (hi : i < n) {sz len cap : Nat} {e : TypeId} {c : D} {xs more : List Value} (hc : Rep w w0.heap.size loc c (.agg ⟨xs⟩)) (hx : xs.length = len * sz) (hle : len ≤ cap)
    (hm : xs.length + more.length = cap * sz) :
    EffRel w0.heap.size s.c (some i) w loc (w.drew.alloc (.cells ⟨xs ++ more⟩ e (0, 0))) (.slice (some ⟨w.heap.size, 0, none⟩) len cap) (.new (.slc true sz (i, s.c i, 0) 0 len) (one c)) := by
  have hb0 : RowKit.Below w.heap.size w w.drew := (RowKit.Below.refl _ _).drew
  have hr : ∀ id b k, loc id = some (some b, k) → b < w.heap.size := fun id b k he => (h.range id b k he).2
  have hb : RowKit.Below w.heap.size w (w.drew.alloc (.cells ⟨xs ++ more⟩ e (0, 0))) := hb0.alloc (Nat.le_refl _) _
  refine ⟨hb, i, (fun j => match j with | 0 => some (some w.heap.size, xs.length) | _ + 1 => none), rfl, ?_⟩
  have hc' : Rep w.drew w0.heap.size loc c (.agg ⟨xs⟩) := Rep.ext (ext_below hb0 hr) _ _ hc
  have hf : ∀ id l, loc id = some l → id.1 = i → id.2.1 < s.c i := fun id l hl hk => by
    have := h.cnt id l hl (by rw [hk]; exact Nat.lt_of_lt_of_le hi h.small)
    rw [hk] at this; exact this
  have hrep : Rep (w.drew.alloc (.cells ⟨xs ++ more⟩ e (0, 0))) w0.heap.size (locR loc i (s.c i) (fun j => match j with | 0 => some (some w.heap.size, xs.length) | _ + 1 => none)) (.slc true sz (i, s.c i, 0) 0 len) (.slice (some ⟨w.heap.size, 0, none⟩) len cap) := by
    rw [Rep]
    refine ⟨_, _, some w.heap.size, xs.length, rfl, hle, by simp [locR], by omega, fun _ => ⟨rfl, hx.symm⟩, 0, rfl, fun _ => rfl, fun _ => ⟨rfl, _, _, _, heap_new w.drew _, ?_⟩⟩
    simp; omega
  have hn := new_rel (w := w.drew) (e := e) (i := i) (c := s.c i) more hc' hr hf hrep
  exact ⟨hn.rep, hn.range, hn.ofSome, hn.inj, hn.mem⟩

theorem append_sound {o : Oper} {args : Array Operand} {ts : Array TypeId} {K : St → Prop} (h : Inv P T n w0 l0 s a w loc) (hd : ∀ i, o.dst = some i → i < n)
    (ho : o.op = .call { callee := .builtin .append, args, argTypes := ts }) (hk : opWp P T o s K) :
    Done P o a w fun y w' => ∃ s' loc', K s' ∧ Inv P T n w0 l0 s' (a.put o.dst y) w' loc' := by
  simp only [opWp, ho] at hk
  split at hk
  · rename_i x y t t' hargs hts
    have hargs' : args = #[x, y] := by apply Array.ext'; simpa using hargs
    have hts' : ts = #[t, t'] := by apply Array.ext'; simpa using hts
    subst hargs'
    subst hts'
    have hex : ∀ z w', (∀ ty, (Builtin.append_ #[t, t'] ty #[a.eval x, a.eval y]).run P w = .ok z w') → (execOp a.eval o).run P w = .ok (.value z) w' := by
      intro z w' hz
      simp [execOp, ho, resolve, invoke, builtin, hz]
    have hvx := h.ev x
    have hvy := h.ev y
    have main : ∀ i' : TI, T t' = some i' → (∀ k, i'.u ≠ .int k) → appendK T s t (s.ev x) (s.ev y) o.dst K → Done P o a w fun y w' => ∃ s' loc', K s' ∧ Inv P T n w0 l0 s' (a.put o.dst y) w' loc' := by
      intro i' hi' hni hk
      obtain ⟨d', hu', hni'⟩ := under_of h.types hi' hni
      unfold appendK at hk
      split at hk
      · rename_i e sz0 bs0 z0 i hti hdst
        have hu := (h.types t _ hti).und
        simp only [UOk] at hu
        have hi := hd i hdst
        split at hk
        · rename_i ti hte
          split at hk
          · rename_i cy m hsrc
            obtain ⟨news, hry, hnl, hlen, hnew⟩ := srcOf_sound (P := P) h.mem hsrc hvy
            have fin : ∀ (s1 : St) (y1 : Value) (w1 : World) (ef : Eff), Inv P T n w0 l0 s1 a w loc → EffRel w0.heap.size s1.c (some i) w loc w1 y1 ef → K (s1.eff (some i) ef) → (∀ ty, (Builtin.append_ #[t, t'] ty #[a.eval x, a.eval y]).run P w = .ok y1 w1) →
                Done P o a w fun y w' => ∃ s' loc', K s' ∧ Inv P T n w0 l0 s' (a.put o.dst y) w' loc' := by
              intro s1 y1 w1 ef hinv hef hK hrun
              obtain ⟨loc', hinv'⟩ := hinv.eff hef (fun j hj => by cases hj; exact hi)
              exact .inl ⟨y1, w1, hex _ _ hrun, _, loc', hK, by rw [hdst]; exact hinv'⟩
            split at hk
            · rename_i hxe
              rw [asrt_iff] at hk
              obtain ⟨hsz, ⟨hb, hm⟩, hK⟩ := hk
              rw [hxe] at hvx
              simp only [Rep] at hvx
              obtain ⟨hvx, _⟩ := hvx
              by_cases hm0 : m = 0
              · subst hm0
                have hnews : news = [] := List.eq_nil_of_length_eq_zero (by omega)
                subst hnews
                refine fin s (.slice none 0 0) w (.new (.slc true ti.size (i, s.c i, 0) 0 0) (one cy)) h ⟨RowKit.Below.refl _ _, i, (fun j => match j with | 0 => some (none, 0) | _ + 1 => none), rfl, ?_⟩ hK (fun ty => by rw [hvx]; exact run_append_nothing' h.types hu hte hu' hni' hlen hnew)
                have hext : Ext w0.heap.size w0.heap.size w loc w (locR loc i (s.c i) (fun j => match j with | 0 => some (none, 0) | _ + 1 => none)) :=
                  ext_new (RowKit.Below.refl _ _) (fun id b k he => (h.range id b k he).2) (fun id l hl hk => by
                    have := h.cnt id l hl (by rw [hk]; exact Nat.lt_of_lt_of_le hi h.small)
                    rw [hk] at this; exact this) (fun j b k hj => by cases j <;> simp at hj)
                refine ⟨?_, fun j b k hj => by cases j <;> simp at hj, fun j l hj => by cases j <;> first | rfl | (simp at hj), fun j j' b k k' hj => by cases j <;> simp at hj, fun j c' hj => ?_⟩
                · rw [Rep]
                  exact ⟨none, 0, none, 0, rfl, Nat.le_refl _, by simp [locR], by simp, fun _ => ⟨rfl, by simp⟩, rfl, rfl⟩
                · cases j with
                  | zero => simp only [one, Option.some.injEq] at hj; subst hj; exact ⟨none, [], rfl, Rep.ext hext _ _ hry, rfl⟩
                  | succ j => simp [one] at hj
              · obtain ⟨cap', more, g1, g2, g3⟩ := run_append_new (w := w) h.types hu hte hu' hni' (aa := none) (len := 0) (cap := 0) (olds := []) (fun W _ => rfl) hlen hnew (by omega) (by simpa using hb) (by omega)
                have hall : ∀ ty, (Builtin.append_ #[t, t'] ty #[a.eval x, a.eval y]).run P w = .ok (.slice (some ⟨w.heap.size, 0, none⟩) m cap') (w.drew.alloc (.cells ⟨news ++ more⟩ e (0, 0))) := by
                  intro ty
                  rw [hvx]
                  simpa using g3 ty
                rw [Nat.zero_add] at g1 g2
                refine fin s _ _ _ h (new_eff h hi hry hnl g1 ?_) hK hall
                rw [hnl, g2, ← Nat.add_mul]
                congr 1
                omega
            · rename_i sz id len hxe
              split at hk
              · rename_i cx hcx
                split at hk
                · rename_i c hcat
                  rw [asrt_iff] at hk
                  obtain ⟨hsz, ⟨hb, hm⟩, hK⟩ := hk
                  simp only [Bool.and_eq_true, beq_iff_eq, bne_iff_ne, ne_eq] at hsz
                  obtain ⟨rfl, hsz⟩ := hsz
                  rw [hxe] at hvx
                  simp only [Rep] at hvx
                  obtain ⟨aa, cap, l, n1, hvx, hle, hl, _, hfull, hloc⟩ := hvx
                  obtain ⟨_, hn1⟩ := hfull trivial
                  subst hn1
                  obtain ⟨l', xs, p1, p2, p3⟩ := h.mem id cx hcx
                  rw [hl] at p1
                  simp only [Option.some.injEq, Prod.mk.injEq] at p1
                  obtain ⟨rfl, hxl⟩ := p1
                  have hkill := h.kill id
                  have hrc := catC_sound hcat p2 hry
                  have hcl : (xs ++ news).length = (len + m) * ti.size := by rw [List.length_append, hnl, ← hxl, ← Nat.add_mul]
                  by_cases hfit : len + m ≤ cap
                  · cases l with
                    | none =>
                      simp only at hloc
                      obtain ⟨rfl, rfl⟩ := hloc
                      have hm0 : m = 0 := by omega
                      subst hm0
                      have hnews : news = [] := List.eq_nil_of_length_eq_zero (by omega)
                      subst hnews
                      have hxs : xs = [] := List.eq_nil_of_length_eq_zero (by omega)
                      subst hxs
                      refine fin { s with m := updI s.m id none } (.slice aa 0 0) w (.new (.slc true ti.size (i, s.c i, 0) 0 (0 + 0)) (one c)) hkill ⟨RowKit.Below.refl _ _, i, (fun j => match j with | 0 => some (none, 0) | _ + 1 => none), rfl, ?_⟩ hK (fun ty => by rw [hvx]; exact run_append_nothing' h.types hu hte hu' hni' hlen hnew)
                      have hext : Ext w0.heap.size w0.heap.size w loc w (locR loc i (s.c i) (fun j => match j with | 0 => some (none, 0) | _ + 1 => none)) :=
                        ext_new (RowKit.Below.refl _ _) (fun id b k he => (h.range id b k he).2) (fun id l hl hk => by
                          have := h.cnt id l hl (by rw [hk]; exact Nat.lt_of_lt_of_le hi h.small)
                          rw [hk] at this; exact this) (fun j b k hj => by cases j <;> simp at hj)
                      refine ⟨?_, fun j b k hj => by cases j <;> simp at hj, fun j l hj => by cases j <;> first | rfl | (simp at hj), fun j j' b k k' hj => by cases j <;> simp at hj, fun j c' hj => ?_⟩
                      · rw [Rep]
                        exact ⟨aa, 0, none, 0, rfl, Nat.le_refl _, by simp [locR], by simp, fun _ => ⟨rfl, by simp⟩, rfl, rfl⟩
                      · cases j with
                        | zero => simp only [one, Option.some.injEq] at hj; subst hj; exact ⟨none, [], rfl, Rep.ext hext _ _ hrc, rfl⟩
                        | succ j => simp [one] at hj
                    | some b =>
                      obtain ⟨oo, haa, _, hcapr⟩ := hloc
                      obtain ⟨rfl, kk, ee, fr, hkk, hcap⟩ := hcapr trivial
                      obtain ⟨k, e', hk1, hk2, hk3⟩ := p3
                      rw [hk1] at hkk
                      simp only [Option.some.injEq, Obj.cells.injEq] at hkk
                      obtain ⟨rfl, rfl, rfl⟩ := hkk
                      have hone : ∀ v ∈ news, v.oneCell' = true := by
                        have : cy ≠ .junk := by rintro rfl; unfold catC asList at hcat; split at hcat <;> simp_all
                        have hcyl : (asList cy).isSome = true := by
                          unfold catC at hcat
                          split at hcat
                          · rfl
                          · split at hcat
                            · rename_i hq; rw [hq]; rfl
                            · simp at hcat
                        simpa [List.all_eq_true] using hry.agg_one hcyl
                      have hroom : len * ti.size + news.length ≤ k.size := by
                        rw [hnl, ← Nat.add_mul]
                        exact Nat.le_trans (Nat.mul_le_mul_right _ hfit) hcap
                      have hsplen : (splice k.toList (len * ti.size) news).length = k.size := by rw [splice_length _ _ _ (by simpa using hroom)]; simp
                      have hfr : ∀ id l, loc id = some l → id.1 = i → id.2.1 < s.c i := fun id l hl hk => by
                        have := h.cnt id l hl (by rw [hk]; exact Nat.lt_of_lt_of_le hi h.small)
                        rw [hk] at this; exact this
                      have hkeep : ∀ id l, loc id = some l → locR loc i (s.c i) (fun j => match j with | 0 => some (some b, (len + m) * ti.size) | _ + 1 => none) id = some l := by
                        intro id l hl
                        rw [locR_eq, if_neg]
                        · exact hl
                        · rintro ⟨h1, h2⟩
                          have := hfr id l hl h1
                          omega
                      have hext : Ext w0.heap.size w0.heap.size w loc (w.setRow b ⟨splice k.toList (len * ti.size) news⟩) (locR loc i (s.c i) (fun j => match j with | 0 => some (some b, (len + m) * ti.size) | _ + 1 => none)) :=
                        ext_setRow hl hk1 _ (by simp [hsplen]) hkeep (fun b' hne hav id' n' he => by
                          rw [locR_eq] at he
                          split at he
                          · generalize id'.2.2 = j at he
                            cases j with
                            | zero => simp only [Option.some.injEq, Prod.mk.injEq] at he; exact hne he.1.symm
                            | succ j => simp at he
                          · exact hav _ _ he)
                      refine .inl ⟨.slice (some ⟨b, 0, none⟩) (len + m) cap, _, hex _ _ (fun ty => by rw [hvx, haa]; exact run_append_fits' h.types hu hte hu' hni' hk1 hlen hnew hfit hroom hone), _, locR loc i (s.c i) (fun j => match j with | 0 => some (some b, (len + m) * ti.size) | _ + 1 => none), hK, ?_⟩
                      rw [hdst]
                      refine ⟨h.types, by simp [Act.put, h.size], h.small, h.defers, h.same.setRow ((h.range _ _ _ hl).1 (h.live _ _ hcx)) _ hk1 (by simp [hsplen]), tmps_put hext h.tmp (by rw [h.size]; exact hi) ?_, ?_, ?_, ?_, ?_, ?_, ?_⟩
                      · rw [Rep]
                        refine ⟨_, _, some b, (len + m) * ti.size, rfl, hfit, by simp [locR], by omega, fun _ => ⟨rfl, rfl⟩, 0, rfl, fun _ => rfl, fun _ => ⟨rfl, _, _, _, setRow_heap _ _ _ _ _ _ hk1, ?_⟩⟩
                        simp only [List.size_toArray, hsplen]
                        exact hcap
                      · intro id' c' hc'
                        simp only [St.new, St.kill] at hc'
                        rw [updR_eq] at hc'
                        split at hc'
                        · rename_i hid
                          generalize hj : id'.2.2 = j at hc'
                          cases j with
                          | zero =>
                            simp only [one, Option.some.injEq] at hc'
                            subst hc'
                            refine ⟨some b, xs ++ news, ?_, Rep.ext hext _ _ hrc, _, e', setRow_heap _ _ _ _ _ _ hk1, ?_, ?_⟩
                            · rw [locR_eq, if_pos hid, hj, hcl]
                            · simp only [splice, hxl, hk2]
                              rw [List.take_append_of_le_length (by simp), List.take_of_length_le (by simp)]
                            · rw [hcl]
                              simp only [List.size_toArray, hsplen]
                              exact Nat.le_trans (Nat.mul_le_mul_right _ hfit) hcap
                          | succ j => simp [one] at hc'
                        · rw [updI_eq] at hc'
                          split at hc'
                          · cases hc'
                          · rename_i hid hne
                            obtain ⟨l', xs', q1, q2, q3⟩ := h.mem id' c' hc'
                            refine ⟨l', xs', hkeep _ _ q1, Rep.ext hext _ _ q2, blk_setRow_other ?_ q3⟩
                            rintro rfl
                            exact hne (h.inj _ _ _ _ _ _ _ hc' hcx q1 hl)
                      · intro id' l' hl' hkk'
                        rw [locR_eq] at hl'
                        simp only [St.new, St.kill]
                        rw [upd_eq]
                        split at hl'
                        · rename_i hid; rw [if_pos hid.1]; omega
                        · have := h.cnt id' l' hl' hkk'
                          split
                          · rename_i hid; rw [hid] at this; omega
                          · exact this
                      · intro id' b' k' hl'
                        rw [locR_eq] at hl'
                        rw [setRow_size]
                        split at hl'
                        · generalize id'.2.2 = j at hl'
                          cases j with
                          | zero => simp only [Option.some.injEq, Prod.mk.injEq] at hl'; obtain ⟨rfl, _⟩ := hl'; exact ⟨fun _ => (h.range _ _ _ hl).1 (h.live _ _ hcx), (h.range _ _ _ hl).2⟩
                          | succ j => simp at hl'
                        · exact h.range _ _ _ hl'
                      · intro id' c' hc'
                        simp only [St.new, St.kill] at hc'
                        rw [updR_eq] at hc'
                        split at hc'
                        · rename_i hid; rw [hid.1]; exact Nat.lt_of_lt_of_le hi (Nat.le_trans h.small (by decide))
                        · exact hkill.live _ _ hc'
                      · intro id' hid'
                        rw [locR_eq, if_neg]
                        · exact h.lent id' hid'
                        · rintro ⟨h1, _⟩
                          have := Nat.lt_of_lt_of_le hi h.small
                          omega
                      · intro id1 id2 c1 c2 b' k1 k2 hc1 hc2 hl1 hl2
                        simp only [St.new, St.kill] at hc1 hc2
                        rw [updR_eq] at hc1 hc2
                        rw [locR_eq] at hl1 hl2
                        have other : ∀ id3 c3 k3, updI s.m id none id3 = some c3 → loc id3 = some (some b, k3) → False := by
                          intro id3 c3 k3 h3 h4
                          rw [updI_eq] at h3
                          split at h3
                          · cases h3
                          · rename_i hne
                            exact hne (h.inj _ _ _ _ _ _ _ h3 hcx h4 hl)
                        by_cases e1 : id1.1 = i ∧ id1.2.1 = s.c i <;> by_cases e2 : id2.1 = i ∧ id2.2.1 = s.c i
                        · rw [if_pos e1] at hl1
                          rw [if_pos e2] at hl2
                          obtain ⟨x1, y1, z1⟩ := id1
                          obtain ⟨x2, y2, z2⟩ := id2
                          simp only at e1 e2 hl1 hl2
                          cases z1 <;> cases z2 <;> simp at hl1 hl2
                          rw [e1.1, e1.2, e2.1, e2.2]
                        · rw [if_pos e1] at hl1
                          rw [if_neg e2] at hl2 hc2
                          exfalso
                          generalize id1.2.2 = j at hl1
                          cases j with
                          | zero => simp only [Option.some.injEq, Prod.mk.injEq] at hl1; obtain ⟨rfl, _⟩ := hl1; exact other _ _ _ hc2 hl2
                          | succ j => simp at hl1
                        · rw [if_neg e1] at hl1 hc1
                          rw [if_pos e2] at hl2
                          exfalso
                          generalize id2.2.2 = j at hl2
                          cases j with
                          | zero => simp only [Option.some.injEq, Prod.mk.injEq] at hl2; obtain ⟨rfl, _⟩ := hl2; exact other _ _ _ hc1 hl1
                          | succ j => simp at hl2
                        · rw [if_neg e1] at hl1 hc1
                          rw [if_neg e2] at hl2 hc2
                          exact hkill.inj _ _ _ _ _ _ _ hc1 hc2 hl1 hl2
                  · have hat : xs.length = 0 ∨ ∃ b o, aa = some ⟨b, o, none⟩ ∧ At w b o xs := by
                      cases l with
                      | none => simp only at hloc; left; rw [← hxl, hloc.1]; simp
                      | some b =>
                        obtain ⟨oo, haa, _, hcapr⟩ := hloc
                        obtain ⟨rfl, _⟩ := hcapr trivial
                        exact .inr ⟨b, 0, haa, At.of_blk p3⟩
                    obtain ⟨cap', more, g1, g2, g3⟩ := run_append_new (w := w) h.types hu hte hu' hni' (aa := aa) (len := len) (cap := cap) (olds := xs) (fun W hW => first_sound hxl.symm hat W hW) hlen hnew (by omega) hb hm
                    have hall : ∀ ty, (Builtin.append_ #[t, t'] ty #[a.eval x, a.eval y]).run P w = .ok (.slice (some ⟨w.heap.size, 0, none⟩) (len + m) cap') (w.drew.alloc (.cells ⟨(xs ++ news) ++ more⟩ e (0, 0))) := by
                      intro ty
                      rw [hvx]
                      exact g3 ty
                    refine fin { s with m := updI s.m id none } _ _ _ hkill (new_eff hkill hi hrc hcl g1 ?_) hK hall
                    rw [hcl, g2, ← Nat.add_mul]
                    congr 1
                    omega
                · exact hk.elim
              · exact hk.elim
            · exact hk.elim
          · exact hk.elim
        · exact hk.elim
      · exact hk.elim
    split at hk
    · exact hk.elim
    · rename_i i' hni hi'
      exact main _ hi' (fun k e1 => by obtain ⟨u, a1, a2, a3⟩ := i'; simp only at e1; subst e1; exact hni _ _ _ _ rfl) hk
    · exact hk.elim
  · exact hk.elim

end
end Go.V
