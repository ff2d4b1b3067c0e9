/- The abstract states are sound, second part: operations that write to no cell that was there. -/
import Derived.Test.YtndlknhakdadjaaV2
set_option linter.unusedVariables false
set_option linter.unusedSimpArgs false
namespace Go.V

def UOk (P : Program) (t : TypeId) : U → Prop
  | .int k => P.underlying t = some (.int k)
  | .bool => P.underlying t = some .bool
  | .str => P.underlying t = some .string
  | .ptr => ∃ e, P.underlying t = some (.pointer e)
  | .slice e => P.underlying t = some (.slice e)
  | .arr n e => P.underlying t = some (.array n e)
  | .struct fs => ∃ fields, P.underlying t = some (.struct fields) ∧ fields.toList.map (fun f => (f.offset, f.type)) = fs
  | .func => ∃ ps rs v, P.underlying t = some (.func ps rs v)
  | .tup => ∃ es, P.underlying t = some (.tuple es)

structure TIOk (P : Program) (t : TypeId) (i : TI) : Prop where
  und : UOk P t i.u
  info : ∃ ti, P.info? t = some ti ∧ ti.size = i.size ∧ ti.bytes = i.bytes ∧ ti.zero = some i.zero
  flat : Flat i.zero = true
  size : i.zero.cells.size = i.size

def TOk (P : Program) (T : Types) : Prop := ∀ t i, T t = some i → TIOk P t i

/-- What an operation comes to: a value, or a call that returns one. -/
def Done (P : Program) (o : Oper) (a : Act) (w : World) (R : Value → World → Prop) : Prop :=
  (∃ y w', (execOp a.eval o).run P w = .ok (.value y) w' ∧ R y w') ∨
  (∃ w', (execOp a.eval o).run P w = .ok .skip w' ∧ R undef w') ∨
  (∃ f args w', (execOp a.eval o).run P w = .ok (.enter f args) w' ∧ Calls P f args w' fun e w'' => ∃ y, e = .returned y ∧ R y w'')

theorem Done.wp {P : Program} {o : Oper} {a : Act} {w : World} {R : Value → World → Prop} {next : Act → World → Prop} {Q : Exit → Act → World → Prop}
    (h : Done P o a w R) (hn : ∀ y w', R y w' → next (a.put o.dst y) w') : o.wp P a w next Q := by
  unfold Oper.wp
  rcases h with ⟨y, w', h, hr⟩ | ⟨w', h, hr⟩ | ⟨f, args, w', h, hr⟩
  · rw [h]; exact hn y w' hr
  · rw [h]; exact hn _ w' hr
  · rw [h]
    refine Calls.mono hr ?_
    rintro e w'' ⟨y, rfl, hr⟩
    exact hn y w'' hr

def locR (loc : Loc) (i c : Nat) (g : Nat → Option (Option Nat × Nat)) : Loc := fun id => bif (id.1 == i && id.2.1 == c) then g id.2.2 else loc id

structure NewRel (base : Nat) (i c : Nat) (w : World) (loc : Loc) (w' : World) (y : Value) (d : D) (f : Nat → Option D) (g : Nat → Option (Option Nat × Nat)) : Prop where
  rep : Rep w' base (locR loc i c g) d y
  range : ∀ j b n, g j = some (some b, n) → w.heap.size ≤ b ∧ b < w'.heap.size
  ofSome : ∀ j l, g j = some l → (f j).isSome = true
  inj : ∀ j j' b n n', g j = some (some b, n) → g j' = some (some b, n') → j = j'
  mem : ∀ j c', f j = some c' → ∃ l xs, g j = some (l, xs.length) ∧ Rep w' base (locR loc i c g) c' (.agg ⟨xs⟩) ∧ BlkAt w' l xs

def EffRel (base : Nat) (c : Nat → Nat) (dst : Option Tmp) (w : World) (loc : Loc) (w' : World) (y : Value) : Eff → Prop
  | .val d => RowKit.Below w.heap.size w w' ∧ Rep w' base loc d y
  | .new d f => RowKit.Below w.heap.size w w' ∧ ∃ i g, dst = some i ∧ NewRel base i (c i) w loc w' y d f g

section
variable {P : Program} {T : Types} {w : World} {base : Nat} {loc : Loc}

theorem run_under {t : TypeId} {d : TypeDesc} (h : P.underlying t = some d) : (underlying t).run P w = .ok d w := by
  simp [underlying, h]
theorem run_info {t : TypeId} {d : TypeInfo} (h : P.info? t = some d) : (typeInfo t).run P w = .ok d w := by
  simp [typeInfo, h]
theorem run_size (hT : TOk P T) {t : TypeId} {i : TI} (h : T t = some i) : (sizeOf t).run P w = .ok i.size w := by
  obtain ⟨ti, h1, h2, _⟩ := (hT t i h).info
  simp [sizeOf, run_info h1, h2]
theorem run_zero (hT : TOk P T) {t : TypeId} {i : TI} (h : T t = some i) : (zeroValue t).run P w = .ok i.zero w := by
  obtain ⟨ti, h1, _, _, h4⟩ := (hT t i h).info
  simp [zeroValue, run_info h1, h4]
theorem run_isAgg (hT : TOk P T) {t : TypeId} {i : TI} (h : T t = some i) : (isAgg t).run P w = .ok i.isAgg w := by
  have hu := (hT t i h).und
  obtain ⟨u, size, bytes, zero⟩ := i
  cases u <;> simp only [UOk] at hu
  case struct => obtain ⟨fields, hu, _⟩ := hu; simp [isAgg, run_under hu, TI.isAgg]
  case ptr => obtain ⟨e, hu⟩ := hu; simp [isAgg, run_under hu, TI.isAgg]
  case func => obtain ⟨p, r, v, hu⟩ := hu; simp [isAgg, run_under hu, TI.isAgg]
  case tup => obtain ⟨e, hu⟩ := hu; simp [isAgg, run_under hu, TI.isAgg]
  all_goals simp [isAgg, run_under hu, TI.isAgg]

theorem addr_add (b o n : Nat) : (⟨b, o, none⟩ : Addr).add n = ⟨b, o + n, none⟩ := by
  unfold Addr.add; split <;> simp_all

theorem run_loadCells_at {b o : Nat} {xs : List Value} (h : At w b o xs) : (loadCells ⟨b, o, none⟩ xs.length).run P w = .ok ⟨xs⟩ w := by
  have := run_loadCells_list (P := P) w ⟨b, o, none⟩ xs (fun j v hj => by rw [addr_add]; exact h.get hj)
  simpa using this

theorem getK_sound {c : D} {off : Nat} {K : D → Prop} {xs : List Value} (h : getK c off K) (hc : Rep w base loc c (.agg ⟨xs⟩)) :
    ∃ d y, K d ∧ xs[off]? = some y ∧ Rep w base loc d y := by
  cases c with
  | v x =>
    cases x with
    | agg a =>
      simp only [getK, optK_iff, nth_eq] at h
      obtain ⟨x, hx, h⟩ := h
      simp only [Rep, Value.agg.injEq] at hc
      obtain ⟨rfl, hf⟩ := hc
      refine ⟨_, x, h, hx, ?_⟩
      simp only [Rep, true_and]
      simp only [Flat, List.all_eq_true] at hf
      exact flat_one (hf x (List.mem_of_getElem? hx))
    | _ => simp [getK] at h
  | agg ds =>
    simp only [getK, optK_iff, nth_eq] at h
    obtain ⟨d, hd, h⟩ := h
    rw [force_eq] at h
    simp only [Rep, Value.agg.injEq, Array.mk.injEq] at hc
    obtain ⟨vs, rfl, h2, h3⟩ := hc
    obtain ⟨y, hy, hr⟩ := h2.get _ _ hd
    exact ⟨d, y, h, hy, hr⟩
  | _ => simp [getK] at h

theorem subK_sound {c : D} {off n : Nat} {K : D → Prop} {xs : List Value} (h : subK c off n K) (hc : Rep w base loc c (.agg ⟨xs⟩)) :
    ∃ d, K d ∧ off + n ≤ xs.length ∧ Rep w base loc d (.agg ⟨(xs.drop off).take n⟩) := by
  cases c with
  | v x =>
    cases x with
    | agg a =>
      simp only [subK] at h
      simp only [Rep, Value.agg.injEq] at hc
      obtain ⟨rfl, hf⟩ := hc
      refine ⟨_, h.2, h.1, ?_⟩
      simp only [Rep, true_and]
      simp only [Flat, List.all_eq_true] at hf ⊢
      exact fun x hx => hf x (List.mem_of_mem_drop (List.mem_of_mem_take hx))
    | _ => simp [subK] at h
  | agg ds =>
    simp only [subK] at h
    simp only [Rep, Value.agg.injEq, Array.mk.injEq] at hc
    obtain ⟨vs, rfl, h2, h3⟩ := hc
    refine ⟨_, h.2, by rw [← h2.length]; exact h.1, ?_⟩
    simp only [Rep]
    refine ⟨_, rfl, (h2.drop off).take n, ?_⟩
    simp only [List.all_eq_true] at h3 ⊢
    exact fun x hx => h3 x (List.mem_of_mem_drop (List.mem_of_mem_take hx))
  | _ => simp [subK] at h

theorem loadK_sound (hT : TOk P T) {t : TypeId} {c : D} {off : Nat} {K : D → Prop} {xs : List Value} {b o : Nat}
    (h : loadK T t c off K) (hc : Rep w base loc c (.agg ⟨xs⟩)) (ha : At w b o xs) :
    ∃ d y, K d ∧ (loadVar t ⟨b, o + off, none⟩).run P w = .ok y w ∧ Rep w base loc d y := by
  unfold loadK at h
  split at h
  · rename_i i hi
    split at h
    · rename_i hag
      obtain ⟨d, h1, h2, h3⟩ := subK_sound h hc
      have h4 := run_loadCells_at (P := P) (ha.sub off i.size h2)
      have hl : ((xs.drop off).take i.size).length = i.size := by simp; omega
      rw [hl] at h4
      exact ⟨d, _, h1, by simp [loadVar, run_isAgg hT hi, hag, run_size hT hi, h4], h3⟩
    · rename_i hag
      obtain ⟨d, y, h1, h2, h3⟩ := getK_sound h hc
      exact ⟨d, y, h1, by simp [loadVar, run_isAgg hT hi, hag, ha.get h2], h3⟩
  · exact h.elim

theorem partK_sound (hT : TOk P T) {t : TypeId} {c : D} {off : Nat} {K : D → Prop} {xs : List Value}
    (h : partK T t c off K) (hc : Rep w base loc c (.agg ⟨xs⟩)) :
    ∃ d y, K d ∧ (part t ⟨xs⟩ off).run P w = .ok y w ∧ Rep w base loc d y := by
  unfold partK loadK at h
  split at h
  · rename_i i hi
    split at h
    · rename_i hag
      obtain ⟨d, h1, h2, h3⟩ := subK_sound h hc
      refine ⟨d, _, h1, ?_, h3⟩
      simp [part, run_isAgg hT hi, hag, run_size hT hi]
    · rename_i hag
      obtain ⟨d, y, h1, h2, h3⟩ := getK_sound h hc
      exact ⟨d, y, h1, by simp [part, run_isAgg hT hi, hag, h2], h3⟩
  · exact h.elim

/-- The content of a new block. -/
theorem cont_rep {d : D} {y : Value} (h : Rep w base loc d y) (h1 : d ≠ .junk) (h2 : ∀ ds, d ≠ .tup ds) : ∃ xs, y.cells = ⟨xs⟩ ∧ Rep w base loc (cont d) (.agg ⟨xs⟩) := by
  have one : ∀ e : D, (∀ x, e = .v x → Flat x = true → x.oneCell' = true) → (∀ y, Rep w base loc e y → y.oneCell' = true) → Rep w base loc e y → ∃ xs, y.cells = ⟨xs⟩ ∧ Rep w base loc (.agg [e]) (.agg ⟨xs⟩) := by
    intro e _ ho he
    have hy := ho y he
    refine ⟨[y], by cases y <;> simp_all [Value.cells, Value.oneCell'], ?_⟩
    simp only [Rep, RepL]
    exact ⟨[y], rfl, ⟨y, [], rfl, he, rfl⟩, by simp [hy]⟩
  cases d with
  | junk => exact absurd rfl h1
  | tup ds => exact absurd rfl (h2 ds)
  | v x =>
    simp only [Rep] at h
    obtain ⟨rfl, hf⟩ := h
    cases y with
    | agg a => exact ⟨a.toList, by simp [Value.cells], by simp only [cont, Rep, true_and]; exact hf⟩
    | tuple a => simp [Flat] at hf
    | _ => exact ⟨[_], rfl, by simp [cont, Rep, Flat, Value.oneCell']⟩
  | agg ds =>
    have h' := h
    simp only [Rep] at h
    obtain ⟨vs, rfl, _, _⟩ := h
    exact ⟨vs, rfl, by simpa only [cont] using h'⟩
  | ptr id off =>
    refine one _ (by simp) (fun y hy => ?_) h
    simp only [Rep] at hy; obtain ⟨_, _, _, rfl⟩ := hy; rfl
  | slc f sz id off len =>
    refine one _ (by simp) (fun y hy => ?_) h
    simp only [Rep] at hy; obtain ⟨_, _, _, _, rfl, _⟩ := hy; rfl
  | ref m c off =>
    refine one _ (by simp) (fun y hy => ?_) h
    simp only [Rep] at hy; obtain ⟨_, _, _, rfl, _⟩ := hy; rfl
  | row m sz c len =>
    refine one _ (by simp) (fun y hy => ?_) h
    simp only [Rep] at hy; obtain ⟨_, _, _, rfl, _⟩ := hy; rfl
  | fn f a b =>
    refine one _ (by simp) (fun y hy => ?_) h
    simp only [Rep] at hy; obtain ⟨_, _, rfl, _⟩ := hy; rfl

theorem below_new (w : World) (o : Obj) : RowKit.Below w.heap.size w (w.alloc o) := (RowKit.Below.refl _ _).alloc (Nat.le_refl _) _

theorem heap_new (w : World) (o : Obj) : (w.alloc o).heap[w.heap.size]? = some o := by
  show (w.heap.push o)[w.heap.size]? = some o
  simp

/-- Growth of memory, as an extension. -/
theorem ext_below {w' : World} (hb : RowKit.Below w.heap.size w w') (hr : ∀ id b n, loc id = some (some b, n) → b < w.heap.size) : Ext base base w loc w' loc where
  le := Nat.le_refl _
  keep _ _ h := h
  old b k e fr h hv := by
    have hlt : b < w.heap.size := (Array.getElem?_eq_some_iff.1 h).1
    exact ⟨by rw [hb.block b hlt]; exact h, hv⟩
  own id b n k e fr h hk := by
    have hlt := hr _ _ _ h
    exact ⟨k, e, fr, by rw [hb.block b hlt]; exact hk, Nat.le_refl _⟩

/-- Growth of memory with new blocks of the call's own. -/
theorem ext_new {w' : World} (hb : RowKit.Below w.heap.size w w') (hr : ∀ id b n, loc id = some (some b, n) → b < w.heap.size) {i c : Nat}
    (hf : ∀ id l, loc id = some l → id.1 = i → id.2.1 < c) {g : Nat → Option (Option Nat × Nat)} (hg : ∀ j b n, g j = some (some b, n) → w.heap.size ≤ b ∧ b < w'.heap.size) : Ext base base w loc w' (locR loc i c g) where
  le := Nat.le_refl _
  keep id l h := by
    unfold locR
    by_cases h1 : id.1 = i
    · have := hf id l h h1
      have h2 : (id.2.1 == c) = false := by simp; omega
      simp [h2, h]
    · have h2 : (id.1 == i) = false := by simpa using h1
      simp [h2, h]
  old b k e fr h hv := by
    have hlt : b < w.heap.size := (Array.getElem?_eq_some_iff.1 h).1
    refine ⟨by rw [hb.block b hlt]; exact h, fun id n he => ?_⟩
    unfold locR at he
    cases hc : (id.1 == i && id.2.1 == c) <;> simp only [hc, cond_true, cond_false] at he
    · exact hv id n he
    · have := (hg _ _ _ he).1; omega
  own id b n k e fr h hk := by
    have hlt := hr _ _ _ h
    exact ⟨k, e, fr, by rw [hb.block b hlt]; exact hk, Nat.le_refl _⟩

/-- A new block with some content. -/
theorem new_rel {i c : Nat} {cd : D} {xs : List Value} {e : TypeId} {d : D} {y : Value} (more : List Value)
    (hc : Rep w base loc cd (.agg ⟨xs⟩)) (hr : ∀ id b n, loc id = some (some b, n) → b < w.heap.size) (hf : ∀ id l, loc id = some l → id.1 = i → id.2.1 < c)
    (hd : Rep (w.alloc (.cells ⟨xs ++ more⟩ e (0, 0))) base (locR loc i c (fun j => match j with | 0 => some (some w.heap.size, xs.length) | _ + 1 => none)) d y) :
    NewRel base i c w loc (w.alloc (.cells ⟨xs ++ more⟩ e (0, 0))) y d (one cd) (fun j => match j with | 0 => some (some w.heap.size, xs.length) | _ + 1 => none) where
  rep := hd
  range j b n h := by
    cases j with
    | zero => simp only [Option.some.injEq, Prod.mk.injEq] at h; obtain ⟨rfl, _⟩ := h; simp
    | succ j => simp at h
  ofSome j l h := by
    cases j with
    | zero => rfl
    | succ j => simp at h
  inj j j' b n n' h h' := by
    cases j <;> cases j' <;> simp_all
  mem j c' h := by
    cases j with
    | zero =>
      simp only [one, Option.some.injEq] at h
      subst h
      refine ⟨_, xs, rfl, Rep.ext (ext_new (below_new _ _) hr hf ?_) _ _ hc, ?_⟩
      · intro j b n h
        cases j with
        | zero => simp only [Option.some.injEq, Prod.mk.injEq] at h; obtain ⟨rfl, _⟩ := h; simp
        | succ j => simp at h
      · exact ⟨_, _, heap_new _ _, by simp, by simp⟩
    | succ j => simp [one] at h

end
end Go.V
