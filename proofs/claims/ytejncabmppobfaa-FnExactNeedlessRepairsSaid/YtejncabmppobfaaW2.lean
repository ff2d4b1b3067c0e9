import Derived.Test.YtejncabmppobfaaW1
import Derived.Lib.ConvBytes
import Derived.Laws.BytesString
import Derived.Laws.MakeOwn
import Derived.Laws.Append
import Derived.Laws.Slices
set_option linter.unusedVariables false
set_option linter.unusedSimpArgs false
/- The abstract states are sound, second part: operations that write to no cell that was there. -/
set_option linter.unusedVariables false
set_option linter.unusedSimpArgs false
set_option linter.unusedSectionVars false
namespace Go.V
variable [Globs]

def UOk (P : Program) (t : TypeId) : U → Prop
  | .int k => P.underlying t = some (.int k)
  | .bool => P.underlying t = some .bool
  | .str => P.underlying t = some .string
  | .ptr => ∃ e, P.underlying t = some (.pointer e)
  | .slice e => P.underlying t = some (.slice e)
  | .arr n e => P.underlying t = some (.array n e)
  | .struct fs => ∃ fields, P.underlying t = some (.struct fields) ∧ fields.toList.map (fun f => (f.offset, f.type)) = fs
  | .func => ∃ ps rs v, P.underlying t = some (.func ps rs v)
  | .tup => ∃ es, P.underlying t = some (.tuple es)
  | .map k e => P.underlying t = some (.map k e)

structure TIOk (P : Program) (t : TypeId) (i : TI) : Prop where
  und : UOk P t i.u
  info : ∃ ti, P.info? t = some ti ∧ ti.size = i.size ∧ ti.bytes = i.bytes ∧ ti.zero = some i.zero
  flat : Flat i.zero = true
  size : i.zero.cells.size = i.size
  num : isNum t = true → ∃ k, i.u = .int k

def TOk (P : Program) (T : Types) : Prop := ∀ t i, T t = some i → TIOk P t i

/-- What an operation comes to: a value, or a call that returns one. -/
def Done (P : Program) (o : Oper) (a : Act) (w : World) (R : Value → World → Prop) : Prop :=
  (∃ y w', (execOp a.eval o).run P w = .ok (.value y) w' ∧ R y w') ∨
  (∃ w', (execOp a.eval o).run P w = .ok .skip w' ∧ R undef w') ∨
  (∃ f args w', (execOp a.eval o).run P w = .ok (.enter f args) w' ∧ Calls P f args w' fun e w'' => ∃ y, e = .returned y ∧ R y w'')

theorem Done.wp {P : Program} {o : Oper} {a : Act} {w : World} {R : Value → World → Prop} {next : Act → World → Prop} {Q : Exit → Act → World → Prop}
    (h : Done P o a w R) (hn : ∀ y w', R y w' → next (a.put o.dst y) w') : o.wp P a w next Q := by
  unfold Oper.wp
  rcases h with ⟨y, w', h, hr⟩ | ⟨w', h, hr⟩ | ⟨f, args, w', h, hr⟩
  · rw [h]; exact hn y w' hr
  · rw [h]; exact hn _ w' hr
  · rw [h]
    refine Calls.mono hr ?_
    rintro e w'' ⟨y, rfl, hr⟩
    exact hn y w'' hr

def locR (loc : Loc) (i c : Nat) (g : Nat → Option (Option Nat × Nat)) : Loc := fun id => bif (id.1 == i && id.2.1 == c) then g id.2.2 else loc id

structure NewRel (base : Nat) (i c : Nat) (w : World) (loc : Loc) (w' : World) (y : Value) (d : D) (f : Nat → Option D) (g : Nat → Option (Option Nat × Nat)) : Prop where
  rep : Rep w' base (locR loc i c g) d y
  range : ∀ j b n, g j = some (some b, n) → w.heap.size ≤ b ∧ b < w'.heap.size
  ofSome : ∀ j l, g j = some l → (f j).isSome = true
  inj : ∀ j j' b n n', g j = some (some b, n) → g j' = some (some b, n') → j = j'
  mem : ∀ j c', f j = some c' → ∃ l xs, g j = some (l, xs.length) ∧ Cont w' base (locR loc i c g) c' l xs

def EffRel (base : Nat) (c : Nat → Nat) (dst : Option Tmp) (w : World) (loc : Loc) (w' : World) (y : Value) : Eff → Prop
  | .val d => RowKit.Below w.heap.size w w' ∧ Rep w' base loc d y
  | .new d f => RowKit.Below w.heap.size w w' ∧ ∃ i g, dst = some i ∧ NewRel base i (c i) w loc w' y d f g

section
variable {P : Program} {T : Types} {w : World} {base : Nat} {loc : Loc}

theorem run_under {t : TypeId} {d : TypeDesc} (h : P.underlying t = some d) : (underlying t).run P w = .ok d w := by
  simp [underlying, h]
theorem run_info {t : TypeId} {d : TypeInfo} (h : P.info? t = some d) : (typeInfo t).run P w = .ok d w := by
  simp [typeInfo, h]
theorem run_size (hT : TOk P T) {t : TypeId} {i : TI} (h : T t = some i) : (sizeOf t).run P w = .ok i.size w := by
  obtain ⟨ti, h1, h2, _⟩ := (hT t i h).info
  simp [sizeOf, run_info h1, h2]
theorem run_zero (hT : TOk P T) {t : TypeId} {i : TI} (h : T t = some i) : (zeroValue t).run P w = .ok i.zero w := by
  obtain ⟨ti, h1, _, _, h4⟩ := (hT t i h).info
  simp [zeroValue, run_info h1, h4]
theorem run_isAgg (hT : TOk P T) {t : TypeId} {i : TI} (h : T t = some i) : (isAgg t).run P w = .ok i.isAgg w := by
  have hu := (hT t i h).und
  obtain ⟨u, size, bytes, zero⟩ := i
  cases u <;> simp only [UOk] at hu
  case struct => obtain ⟨fields, hu, _⟩ := hu; simp [isAgg, run_under hu, TI.isAgg]
  case ptr => obtain ⟨e, hu⟩ := hu; simp [isAgg, run_under hu, TI.isAgg]
  case func => obtain ⟨p, r, v, hu⟩ := hu; simp [isAgg, run_under hu, TI.isAgg]
  case tup => obtain ⟨e, hu⟩ := hu; simp [isAgg, run_under hu, TI.isAgg]
  all_goals simp [isAgg, run_under hu, TI.isAgg]

theorem addr_add (b o n : Nat) : (⟨b, o, none⟩ : Addr).add n = ⟨b, o + n, none⟩ := by
  unfold Addr.add; split <;> simp_all

theorem run_loadCells_at {b o : Nat} {xs : List Value} (h : At w b o xs) : (loadCells ⟨b, o, none⟩ xs.length).run P w = .ok ⟨xs⟩ w := by
  have := run_loadCells_list (P := P) w ⟨b, o, none⟩ xs (fun j v hj => by rw [addr_add]; exact h.get hj)
  simpa using this

theorem getK_sound {c : D} {off : Nat} {K : D → Prop} {xs : List Value} (h : getK c off K) (hc : Rep w base loc c (.agg ⟨xs⟩)) :
    ∃ d y, K d ∧ xs[off]? = some y ∧ Rep w base loc d y := by
  cases c with
  | v x =>
    cases x with
    | agg a =>
      simp only [getK, optK_iff, nth_eq] at h
      obtain ⟨x, hx, h⟩ := h
      simp only [Rep, Value.agg.injEq] at hc
      obtain ⟨rfl, hf⟩ := hc
      refine ⟨_, x, h, hx, ?_⟩
      simp only [Rep, true_and]
      simp only [Flat, List.all_eq_true] at hf
      exact flat_one (hf x (List.mem_of_getElem? hx))
    | _ => simp [getK] at h
  | agg ds =>
    simp only [getK, optK_iff, nth_eq] at h
    obtain ⟨d, hd, h⟩ := h
    rw [force_eq] at h
    simp only [Rep, Value.agg.injEq, Array.mk.injEq] at hc
    obtain ⟨vs, rfl, h2, h3⟩ := hc
    obtain ⟨y, hy, hr⟩ := h2.get _ _ hd
    exact ⟨d, y, h, hy, hr⟩
  | _ => simp [getK] at h

theorem subK_sound {c : D} {off n : Nat} {K : D → Prop} {xs : List Value} (h : subK c off n K) (hc : Rep w base loc c (.agg ⟨xs⟩)) :
    ∃ d, K d ∧ off + n ≤ xs.length ∧ Rep w base loc d (.agg ⟨(xs.drop off).take n⟩) := by
  cases c with
  | v x =>
    cases x with
    | agg a =>
      simp only [subK] at h
      simp only [Rep, Value.agg.injEq] at hc
      obtain ⟨rfl, hf⟩ := hc
      refine ⟨_, h.2, h.1, ?_⟩
      simp only [Rep, true_and]
      simp only [Flat, List.all_eq_true] at hf ⊢
      exact fun x hx => hf x (List.mem_of_mem_drop (List.mem_of_mem_take hx))
    | _ => simp [subK] at h
  | agg ds =>
    simp only [subK] at h
    simp only [Rep, Value.agg.injEq, Array.mk.injEq] at hc
    obtain ⟨vs, rfl, h2, h3⟩ := hc
    refine ⟨_, h.2, by rw [← h2.length]; exact h.1, ?_⟩
    simp only [Rep]
    refine ⟨_, rfl, (h2.drop off).take n, ?_⟩
    simp only [List.all_eq_true] at h3 ⊢
    exact fun x hx => h3 x (List.mem_of_mem_drop (List.mem_of_mem_take hx))
  | _ => simp [subK] at h

theorem loadK_sound (hT : TOk P T) {t : TypeId} {c : D} {off : Nat} {K : D → Prop} {xs : List Value} {b o : Nat}
    (h : loadK T t c off K) (hc : Rep w base loc c (.agg ⟨xs⟩)) (ha : At w b o xs) :
    ∃ d y, K d ∧ (loadVar t ⟨b, o + off, none⟩).run P w = .ok y w ∧ Rep w base loc d y := by
  unfold loadK at h
  split at h
  · rename_i i hi
    split at h
    · rename_i hag
      obtain ⟨d, h1, h2, h3⟩ := subK_sound h hc
      have h4 := run_loadCells_at (P := P) (ha.sub off i.size h2)
      have hl : ((xs.drop off).take i.size).length = i.size := by simp; omega
      rw [hl] at h4
      exact ⟨d, _, h1, by simp [loadVar, run_isAgg hT hi, hag, run_size hT hi, h4], h3⟩
    · rename_i hag
      obtain ⟨d, y, h1, h2, h3⟩ := getK_sound h hc
      exact ⟨d, y, h1, by simp [loadVar, run_isAgg hT hi, hag, ha.get h2], h3⟩
  · exact h.elim

theorem loadK_obj {T : Types} {t : TypeId} {x : Ob} {off : Nat} {K : D → Prop} (h : loadK T t (.obj x) off K) : False := by
  unfold loadK at h
  split at h
  · split at h
    · simp [subK] at h
    · simp [getK] at h
  · exact h
theorem partK_sound (hT : TOk P T) {t : TypeId} {c : D} {off : Nat} {K : D → Prop} {xs : List Value}
    (h : partK T t c off K) (hc : Rep w base loc c (.agg ⟨xs⟩)) :
    ∃ d y, K d ∧ (part t ⟨xs⟩ off).run P w = .ok y w ∧ Rep w base loc d y := by
  unfold partK loadK at h
  split at h
  · rename_i i hi
    split at h
    · rename_i hag
      obtain ⟨d, h1, h2, h3⟩ := subK_sound h hc
      refine ⟨d, _, h1, ?_, h3⟩
      simp [part, run_isAgg hT hi, hag, run_size hT hi]
    · rename_i hag
      obtain ⟨d, y, h1, h2, h3⟩ := getK_sound h hc
      exact ⟨d, y, h1, by simp [part, run_isAgg hT hi, hag, h2], h3⟩
  · exact h.elim

/-- The content of a new block. -/
theorem cont_rep {d : D} {y : Value} (h : Rep w base loc d y) (h1 : d ≠ .junk) (h2 : ∀ ds, d ≠ .tup ds) : ∃ xs, y.cells = ⟨xs⟩ ∧ Rep w base loc (cont d) (.agg ⟨xs⟩) := by
  have one : ∀ e : D, (∀ x, e = .v x → Flat x = true → x.oneCell' = true) → (∀ y, Rep w base loc e y → y.oneCell' = true) → Rep w base loc e y → ∃ xs, y.cells = ⟨xs⟩ ∧ Rep w base loc (.agg [e]) (.agg ⟨xs⟩) := by
    intro e _ ho he
    have hy := ho y he
    refine ⟨[y], by cases y <;> simp_all [Value.cells, Value.oneCell'], ?_⟩
    simp only [Rep, RepL]
    exact ⟨[y], rfl, ⟨y, [], rfl, he, rfl⟩, by simp [hy]⟩
  cases d with
  | junk => exact absurd rfl h1
  | tup ds => exact absurd rfl (h2 ds)
  | v x =>
    simp only [Rep] at h
    obtain ⟨rfl, hf⟩ := h
    cases y with
    | agg a => exact ⟨a.toList, by simp [Value.cells], by simp only [cont, Rep, true_and]; exact hf⟩
    | tuple a => simp [Flat] at hf
    | _ => exact ⟨[_], rfl, by simp [cont, Rep, Flat, Value.oneCell']⟩
  | agg ds =>
    have h' := h
    simp only [Rep] at h
    obtain ⟨vs, rfl, _, _⟩ := h
    exact ⟨vs, rfl, by simpa only [cont] using h'⟩
  | ptr id off =>
    refine one _ (by simp) (fun y hy => ?_) h
    simp only [Rep] at hy; obtain ⟨_, _, _, rfl⟩ := hy; rfl
  | slc f sz id off len =>
    refine one _ (by simp) (fun y hy => ?_) h
    simp only [Rep] at hy; obtain ⟨_, _, _, _, rfl, _⟩ := hy; rfl
  | ref m c off =>
    refine one _ (by simp) (fun y hy => ?_) h
    simp only [Rep] at hy; obtain ⟨_, _, _, rfl, _⟩ := hy; rfl
  | row m sz c len =>
    refine one _ (by simp) (fun y hy => ?_) h
    simp only [Rep] at hy; obtain ⟨_, _, _, rfl, _⟩ := hy; rfl
  | fn f a b =>
    refine one _ (by simp) (fun y hy => ?_) h
    simp only [Rep] at hy; obtain ⟨_, _, rfl, _⟩ := hy; rfl
  | mr id =>
    refine one _ (by simp) (fun y hy => ?_) h
    simp only [Rep] at hy; obtain ⟨_, _, _, rfl⟩ := hy; rfl
  | obj x => simp [Rep] at h

theorem below_new (w : World) (o : Obj) : RowKit.Below w.heap.size w (w.alloc o) := (RowKit.Below.refl _ _).alloc (Nat.le_refl _) _

theorem heap_new (w : World) (o : Obj) : (w.alloc o).heap[w.heap.size]? = some o := by
  show (w.heap.push o)[w.heap.size]? = some o
  simp

/-- Growth of memory, as an extension. -/
theorem ext_below {w' : World} (hb : RowKit.Below w.heap.size w w') (hr : ∀ id b n, loc id = some (some b, n) → b < w.heap.size) : Ext base base w loc w' loc where
  le := Nat.le_refl _
  keep _ _ h := h
  old b k e fr h hv := by
    have hlt : b < w.heap.size := (Array.getElem?_eq_some_iff.1 h).1
    exact ⟨by rw [hb.block b hlt]; exact h, hv⟩
  own id b n k e fr h hk := by
    have hlt := hr _ _ _ h
    exact ⟨k, e, fr, by rw [hb.block b hlt]; exact hk, Nat.le_refl _⟩

/-- Growth of memory with new blocks of the call's own. -/
theorem ext_new {w' : World} (hb : RowKit.Below w.heap.size w w') (hr : ∀ id b n, loc id = some (some b, n) → b < w.heap.size) {i c : Nat}
    (hf : ∀ id l, loc id = some l → id.1 = i → id.2.1 < c) {g : Nat → Option (Option Nat × Nat)} (hg : ∀ j b n, g j = some (some b, n) → w.heap.size ≤ b ∧ b < w'.heap.size) : Ext base base w loc w' (locR loc i c g) where
  le := Nat.le_refl _
  keep id l h := by
    unfold locR
    by_cases h1 : id.1 = i
    · have := hf id l h h1
      have h2 : (id.2.1 == c) = false := by simp; omega
      simp [h2, h]
    · have h2 : (id.1 == i) = false := by simpa using h1
      simp [h2, h]
  old b k e fr h hv := by
    have hlt : b < w.heap.size := (Array.getElem?_eq_some_iff.1 h).1
    refine ⟨by rw [hb.block b hlt]; exact h, fun id n he => ?_⟩
    unfold locR at he
    cases hc : (id.1 == i && id.2.1 == c) <;> simp only [hc, cond_true, cond_false] at he
    · exact hv id n he
    · have := (hg _ _ _ he).1; omega
  own id b n k e fr h hk := by
    have hlt := hr _ _ _ h
    exact ⟨k, e, fr, by rw [hb.block b hlt]; exact hk, Nat.le_refl _⟩

/-- A new block with some content. -/
theorem new_rel {i c : Nat} {cd : D} {xs : List Value} {e : TypeId} {d : D} {y : Value} (more : List Value)
    (hc : Rep w base loc cd (.agg ⟨xs⟩)) (hr : ∀ id b n, loc id = some (some b, n) → b < w.heap.size) (hf : ∀ id l, loc id = some l → id.1 = i → id.2.1 < c)
    (hd : Rep (w.alloc (.cells ⟨xs ++ more⟩ e (0, 0))) base (locR loc i c (fun j => match j with | 0 => some (some w.heap.size, xs.length) | _ + 1 => none)) d y) :
    NewRel base i c w loc (w.alloc (.cells ⟨xs ++ more⟩ e (0, 0))) y d (one cd) (fun j => match j with | 0 => some (some w.heap.size, xs.length) | _ + 1 => none) where
  rep := hd
  range j b n h := by
    cases j with
    | zero => simp only [Option.some.injEq, Prod.mk.injEq] at h; obtain ⟨rfl, _⟩ := h; simp
    | succ j => simp at h
  ofSome j l h := by
    cases j with
    | zero => rfl
    | succ j => simp at h
  inj j j' b n n' h h' := by
    cases j <;> cases j' <;> simp_all
  mem j c' h := by
    cases j with
    | zero =>
      simp only [one, Option.some.injEq] at h
      subst h
      refine ⟨_, xs, rfl, .inl ⟨Rep.ext (ext_new (below_new _ _) hr hf ?_) _ _ hc, ?_⟩⟩
      · intro j b n h
        cases j with
        | zero => simp only [Option.some.injEq, Prod.mk.injEq] at h; obtain ⟨rfl, _⟩ := h; simp
        | succ j => simp at h
      · exact ⟨_, _, heap_new _ _, by simp, by simp⟩
    | succ j => simp [one] at h

/-- A new object that is no cells. -/
theorem new_obj {i c : Nat} {ob : Ob} {x : Obj} {d : D} {y : Value} (hr : ∀ id b n, loc id = some (some b, n) → b < w.heap.size) (hf : ∀ id l, loc id = some l → id.1 = i → id.2.1 < c)
    (ho : ∀ loc', (∀ id l, loc id = some l → loc' id = some l) → ORep (w.alloc x) loc' ob w.heap.size)
    (hd : ∀ loc' : Loc, loc' (i, c, 0) = some (some w.heap.size, 0) → Rep (w.alloc x) base loc' d y) :
    NewRel base i c w loc (w.alloc x) y d (one (.obj ob)) (fun j => match j with | 0 => some (some w.heap.size, 0) | _ + 1 => none) where
  rep := hd _ (by simp [locR])
  range j b n h := by
    cases j with
    | zero => simp only [Option.some.injEq, Prod.mk.injEq] at h; obtain ⟨rfl, _⟩ := h; simp
    | succ j => simp at h
  ofSome j l h := by
    cases j with
    | zero => rfl
    | succ j => simp at h
  inj j j' b n n' h h' := by
    cases j <;> cases j' <;> simp_all
  mem j c' h := by
    cases j with
    | zero =>
      simp only [one, Option.some.injEq] at h
      subst h
      refine ⟨_, [], rfl, .inr ⟨ob, w.heap.size, rfl, rfl, rfl, ho _ ?_⟩⟩
      refine (ext_new (base := base) (below_new w x) hr hf ?_).keep
      intro j b n h
      cases j with
      | zero => simp only [Option.some.injEq, Prod.mk.injEq] at h; obtain ⟨rfl, _⟩ := h; simp
      | succ j => simp at h
    | succ j => simp [one] at h

end
end Go.V
/- The abstract states are sound, third part: each operation by itself. -/
set_option linter.unusedVariables false
set_option linter.unusedSimpArgs false
set_option linter.unusedSectionVars false
namespace Go.V
variable [Globs]

section
variable {P : Program} {T : Types} {w : World} {base : Nat} {loc : Loc}

theorem asAddr_run {a : Addr} : (asAddr (.pointer (some a))).run P w = .ok a w := rfl

theorem fieldAddrK_sound (hT : TOk P T) {t : TypeId} {x : D} {f : Nat} {K : D → Prop} {y : Value} (h : fieldAddrK T t x f K) (hx : Rep w base loc x y) :
    ∃ d z, K d ∧ (Instr.fieldAt t y f).run P w = .ok z w ∧ Rep w base loc d z := by
  unfold fieldAddrK at h
  split at h
  · rename_i fs sz bs z hi
    obtain ⟨fields, hu, hfs⟩ := (hT t _ hi).und
    split at h
    · rename_i fo ft hf
      have hff : ∃ F : Field, fields[f]? = some F ∧ F.offset = fo ∧ F.type = ft := by
        rw [← hfs, List.getElem?_map] at hf
        cases hg : fields.toList[f]? with
        | none => simp [hg] at hf
        | some F =>
          simp only [hg, Option.map_some, Option.some.injEq, Prod.mk.injEq] at hf
          exact ⟨F, by simpa using hg, hf.1, hf.2⟩
      obtain ⟨F, hF, rfl, rfl⟩ := hff
      split at h
      · rename_i i hti
        split at h
        · exact h.elim
        · rename_i n hn
          have hne : ¬ i.size = 0 := by omega
          have key : ∀ b o, (Instr.fieldAt t (.pointer (some ⟨b, o, none⟩)) f).run P w = .ok (.pointer (some ⟨b, o + F.offset, none⟩)) w := by
            intro b o
            simp [Instr.fieldAt, run_under hu, hF, Instr.sureAddr, fieldPlace, run_size hT hti, hne, addr_add]
          split at h
          · rename_i id off
            simp only [Rep] at hx
            obtain ⟨b, n', h1, rfl⟩ := hx
            exact ⟨_, _, h, key _ _, by simp only [Rep]; exact ⟨b, n', h1, rfl⟩⟩
          · rename_i m c off
            simp only [Rep] at hx
            obtain ⟨b, o, xs, rfl, h2⟩ := hx
            exact ⟨_, _, h, key _ _, by simp only [Rep]; exact ⟨b, o, xs, by rw [Nat.add_assoc], h2⟩⟩
          · exact h.elim
      · exact h.elim
    · exact h.elim
  · exact h.elim

theorem fieldK_sound (hT : TOk P T) {t : TypeId} {x : D} {f : Nat} {K : D → Prop} {y : Value} (h : fieldK T t x f K) (hx : Rep w base loc x y) :
    ∃ d z, K d ∧ (Instr.field t y f).run P w = .ok z w ∧ Rep w base loc d z := by
  unfold fieldK at h
  split at h
  · rename_i fs sz bs z hi
    obtain ⟨fields, hu, hfs⟩ := (hT t _ hi).und
    split at h
    · rename_i fo ft hf
      have hff : ∃ F : Field, fields[f]? = some F ∧ F.offset = fo ∧ F.type = ft := by
        rw [← hfs, List.getElem?_map] at hf
        cases hg : fields.toList[f]? with
        | none => simp [hg] at hf
        | some F =>
          simp only [hg, Option.map_some, Option.some.injEq, Prod.mk.injEq] at hf
          exact ⟨F, by simpa using hg, hf.1, hf.2⟩
      obtain ⟨F, hF, rfl, rfl⟩ := hff
      have plain : partK T F.type x F.offset K → ∃ d z, K d ∧ (Instr.field t y f).run P w = .ok z w ∧ Rep w base loc d z := by
        intro h
        have hagg : ∃ xs, y = .agg ⟨xs⟩ := by
          cases x with
          | v x' =>
            simp only [Rep] at hx
            obtain ⟨rfl, _⟩ := hx
            cases y with
            | agg a => exact ⟨a.toList, rfl⟩
            | _ => simp [partK, loadK, subK, getK] at h; split at h <;> (try split at h) <;> exact h.elim
          | agg ds => simp only [Rep] at hx; obtain ⟨vs, rfl, _⟩ := hx; exact ⟨vs, rfl⟩
          | _ => simp [partK, loadK, subK, getK] at h; split at h <;> (try split at h) <;> exact h.elim
        obtain ⟨xs, rfl⟩ := hagg
        obtain ⟨d, z, h1, h2, h3⟩ := partK_sound hT h hx
        exact ⟨d, z, h1, by simp [Instr.field, run_under hu, hF, asAgg, h2], h3⟩
      split at h
      · rename_i ds
        rcases h with h | h
        · exact plain h
        · unfold flatK at h
          split at h
          · rename_i i hi'
            obtain ⟨l, ⟨hag, hle, hpl⟩, hK⟩ := h
            simp only [Rep] at hx
            obtain ⟨vs, rfl, hr, hone⟩ := hx
            have hs := (hr.drop F.offset).take i.size
            have hl := hs.of_plain hpl
            refine ⟨_, .agg ⟨l⟩, hK, ?_, ?_⟩
            · simp [Instr.field, run_under hu, hF, asAgg, part, run_isAgg hT hi', hag, run_size hT hi', hl]
            · simp only [Rep, true_and, Flat]
              rw [← hl]
              simp only [List.all_eq_true] at hone ⊢
              exact fun x hx => hone x (List.mem_of_mem_drop (List.mem_of_mem_take hx))
          · exact h.elim
      · exact plain h
    · exact h.elim
  · exact h.elim

theorem indexAddrK_sound (hT : TOk P T) {t : TypeId} {x i : D} {K : D → Prop} {y z : Value} (h : indexAddrK T t x i K) (hx : Rep w base loc x y) (hi : Rep w base loc i z) :
    ∃ d u, K d ∧ (Instr.indexAt t y z).run P w = .ok u w ∧ Rep w base loc d u := by
  unfold indexAddrK at h
  split at h
  · rename_i k n
    simp only [Rep] at hi
    obtain ⟨rfl, _⟩ := hi
    split at h
    · rename_i len e sz bs zr hti
      have hu := (hT t _ hti).und
      simp only [UOk] at hu
      split at h
      · rename_i ti hte
        obtain ⟨⟨h0, h1⟩, h⟩ := h
        have key : ∀ b o, (Instr.indexAt t (.pointer (some ⟨b, o, none⟩)) (.int k n)).run P w = .ok (.pointer (some ⟨b, o + n.toNat * ti.size, none⟩)) w := by
          intro b o
          simp [Instr.indexAt, asIntOf, run_under hu, Instr.sureAddr, h0, h1, run_size hT hte, addr_add]
        split at h
        · rename_i id off
          simp only [Rep] at hx
          obtain ⟨b, n', h2, rfl⟩ := hx
          exact ⟨_, _, h, key _ _, by simp only [Rep]; exact ⟨b, n', h2, rfl⟩⟩
        · rename_i m c off
          simp only [Rep] at hx
          obtain ⟨b, o, xs, rfl, h2⟩ := hx
          exact ⟨_, _, h, key _ _, by simp only [Rep]; exact ⟨b, o, xs, by rw [Nat.add_assoc], h2⟩⟩
        · exact h.elim
      · exact h.elim
    · rename_i e sz bs zr hti
      have hu := (hT t _ hti).und
      simp only [UOk] at hu
      split at h
      · rename_i ti hte
        split at h
        · rename_i f s id off len
          rw [asrt_iff] at h
          obtain ⟨hsz, ⟨h0, h1⟩, h⟩ := h
          obtain rfl : s = ti.size := by simpa using hsz
          simp only [Rep] at hx
          obtain ⟨a, cap, l, n', rfl, h3, h4, h5, h6, h7⟩ := hx
          cases l with
          | none => omega
          | some b =>
            obtain ⟨o, rfl, h8, _⟩ := h7
            have ho : o = off := h8 (by omega)
            subst ho
            exact ⟨_, .pointer (some ⟨b, o + n.toNat * ti.size, none⟩), h, by simp [Instr.indexAt, asIntOf, run_under hu, h0, h1, run_size hT hte, addr_add], by simp only [Rep]; exact ⟨b, n', h4, rfl⟩⟩
        · rename_i m s c len
          rw [asrt_iff] at h
          obtain ⟨hsz, ⟨h0, h1⟩, h⟩ := h
          simp only [Bool.and_eq_true, beq_iff_eq, bne_iff_ne, ne_eq] at hsz
          obtain ⟨rfl, hs⟩ := hsz
          simp only [Rep] at hx
          obtain ⟨a, cap, xs, rfl, h3, h4, h5, h6⟩ := hx
          rcases h6 with h6 | ⟨b, o, rfl, h7⟩
          · exfalso
            rcases Nat.mul_eq_zero.1 h6 with h6 | h6 <;> omega
          · refine ⟨_, .pointer (some ⟨b, o + n.toNat * ti.size, none⟩), h, by simp [Instr.indexAt, asIntOf, run_under hu, h0, h1, run_size hT hte, addr_add], ?_⟩
            simp only [Rep]
            exact ⟨b, o, xs, rfl, h7.1, h7.2.1, h7.2.2, h4⟩
        · exact h.elim
      · exact h.elim
    · exact h.elim
  · exact h.elim

theorem indexK_sound (hT : TOk P T) {t : TypeId} {x i : D} {K : D → Prop} {y z : Value} (h : indexK T t x i K) (hx : Rep w base loc x y) (hi : Rep w base loc i z) :
    ∃ d u, K d ∧ (Instr.index t y z).run P w = .ok u w ∧ Rep w base loc d u := by
  unfold indexK at h
  split at h
  · rename_i k n
    simp only [Rep] at hi
    obtain ⟨rfl, _⟩ := hi
    split at h
    · rename_i len e sz bs zr hti
      have hu := (hT t _ hti).und
      simp only [UOk] at hu
      split at h
      · rename_i ti hte
        obtain ⟨⟨h0, h1⟩, h⟩ := h
        have hagg : ∃ xs, y = .agg ⟨xs⟩ := by
          cases x with
          | v x' =>
            simp only [Rep] at hx
            obtain ⟨rfl, _⟩ := hx
            cases y with
            | agg a => exact ⟨a.toList, rfl⟩
            | _ => simp [partK, loadK, subK, getK] at h; split at h <;> (try split at h) <;> exact h.elim
          | agg ds => simp only [Rep] at hx; obtain ⟨vs, rfl, _⟩ := hx; exact ⟨vs, rfl⟩
          | _ => simp [partK, loadK, subK, getK] at h; split at h <;> (try split at h) <;> exact h.elim
        obtain ⟨xs, rfl⟩ := hagg
        obtain ⟨d, u, g1, g2, g3⟩ := partK_sound hT h hx
        exact ⟨d, u, g1, by simp [Instr.index, asIntOf, run_under hu, h0, h1, run_size hT hte, g2], g3⟩
      · exact h.elim
    · rename_i sz bs zr hti
      have hu := (hT t _ hti).und
      simp only [UOk] at hu
      split at h
      · rename_i b
        obtain ⟨⟨h0, h1⟩, h⟩ := h
        simp only [Rep] at hx
        obtain ⟨rfl, _⟩ := hx
        have hlt : n.toNat < b.size := by omega
        have hg : b[n.toNat]? = some b[n.toNat] := by simp [hlt]
        refine ⟨_, .int .u8 (b[n.toNat]).toNat, h, ?_, ?_⟩
        · simp only [Instr.index, Sem.run_bind, asIntOf, Sem.run_pure, Result.andThen_ok, run_under hu, h0, if_true, hg]
        · simp only [Rep, byteAt, Flat, and_true, Value.int.injEq, true_and]
          have : b.data.toList.getD n.toNat 0 = b[n.toNat] := by
            have : n.toNat < b.data.toList.length := by simpa using hlt
            rw [List.getD_eq_getElem?_getD, List.getElem?_eq_getElem this, Option.getD_some]; rfl
          rw [this]
      · exact h.elim
    · exact h.elim
  · exact h.elim

theorem guard_int (op : BinOp) (t : TypeId) (x y : Operand) (k k' : IntKind) (a b : Int) : (eqGuard op t x y (.int k a) (.int k' b)).run P w = .ok () w := by
  unfold eqGuard; cases op <;> rfl
theorem guard_str (op : BinOp) (t : TypeId) (x y : Operand) (a b : ByteArray) : (eqGuard op t x y (.string a) (.string b)).run P w = .ok () w := by
  unfold eqGuard; cases op <;> rfl

theorem guard_bool (op : BinOp) (t : TypeId) (x y : Operand) (a b : Bool) : (eqGuard op t x y (.bool a) (.bool b)).run P w = .ok () w := by
  unfold eqGuard; cases op <;> rfl
theorem equal_bool {t : TypeId} (h : P.underlying t = some .bool) (a b : Bool) : (Op.equal t (.bool a) (.bool b)).run P w = .ok (a == b) w := by
  unfold Op.equal Op.maxDepth Op.equalIn
  simp [run_under h]

theorem guard_slice (op : BinOp) (t : TypeId) (x y : Operand) (a b : Option Addr) (l c l' c' : Nat) : (eqGuard op t x y (.slice a l c) (.slice b l' c')).run P w = .ok () w := by
  unfold eqGuard; cases op <;> rfl
theorem equal_nil {t e : TypeId} (h : P.underlying t = some (.slice e)) (a : Option Addr) (l c : Nat) : (Op.equal t (.slice a l c) (.slice none 0 0)).run P w = .ok a.isNone w := by
  unfold Op.equal Op.maxDepth Op.equalIn
  cases a <;> simp [run_under h]

theorem binK_sound (hT : TOk P T) {op : BinOp} {t : TypeId} {x y : D} {K : D → Prop} {u v : Value} (ox oy : Operand) (h : binK P T op t x y K) (hx : Rep w base loc x u) (hy : Rep w base loc y v) :
    ∃ d z, K d ∧ (do eqGuard op t ox oy u v; binOp op t u v : Sem Value).run P w = .ok z w ∧ Rep w base loc d z := by
  unfold binK at h
  split at h
  · rename_i k a k' b
    simp only [Rep] at hx hy
    obtain ⟨rfl, _⟩ := hx
    obtain ⟨rfl, _⟩ := hy
    have fin : ∀ z, Flat z = true → K (.v z) → (binOp op t (.int k a) (.int k' b)).run P w = .ok z w → ∃ d z, K d ∧ (do eqGuard op t ox oy (.int k a) (.int k' b); binOp op t (.int k a) (.int k' b) : Sem Value).run P w = .ok z w ∧ Rep w base loc d z :=
      fun z hz hk hr => ⟨_, z, hk, by simp [guard_int, hr], by simp only [Rep, true_and]; exact hz⟩
    split at h
    · obtain ⟨h0, h⟩ := h
      have h0' : ¬ b < 0 := by omega
      exact fin _ rfl h (by simp [binOp, Op.shift, h0'])
    · obtain ⟨h0, h⟩ := h
      have h0' : ¬ b < 0 := by omega
      exact fin _ rfl h (by simp [binOp, Op.shift, h0'])
    · rw [asrt_iff] at h
      obtain ⟨hkk, h⟩ := h
      obtain rfl : k = k' := by simpa using hkk
      split at h
      · exact fin _ rfl h (by simp [binOp, Op.intArith])
      · exact fin _ rfl h (by simp [binOp, Op.intArith])
      · exact fin _ rfl h (by simp [binOp, Op.intArith])
      · exact fin _ rfl h.2 (by simp [binOp, Op.intDiv, h.1])
      · exact fin _ rfl h.2 (by simp [binOp, Op.intDiv, h.1])
      · exact fin _ rfl h (by simp [binOp, Op.intBits])
      · exact fin _ rfl h (by simp [binOp, Op.intBits])
      · exact fin _ rfl h (by simp [binOp, Op.intBits])
      · exact fin _ rfl h (by simp [binOp, Op.intBits])
      · split at h
        · rename_i r hr
          refine fin _ rfl h ?_
          cases op <;> first | (simp only [intCmpB, reduceCtorEq] at hr; done) | (simp only [intCmpB, Option.some.injEq] at hr; subst hr; simp [binOp, Op.intCmp])
        · exact h.elim
  · rename_i a b
    simp only [Rep] at hx hy
    obtain ⟨rfl, _⟩ := hx
    obtain ⟨rfl, _⟩ := hy
    have fin : ∀ z, Flat z = true → K (.v z) → (binOp op t (.string a) (.string b)).run P w = .ok z w → ∃ d z, K d ∧ (do eqGuard op t ox oy (.string a) (.string b); binOp op t (.string a) (.string b) : Sem Value).run P w = .ok z w ∧ Rep w base loc d z :=
      fun z hz hk hr => ⟨_, z, hk, by simp [guard_str, hr], by simp only [Rep, true_and]; exact hz⟩
    split at h
    · obtain ⟨h0, h⟩ := h
      refine fin _ rfl h ?_
      have : ¬ (((a.size + b.size : Nat) : Int) > IntKind.i64.max) := by omega
      simp only [binOp, Op.stringOp, if_neg this, Sem.run_pure]
    · split at h
      · rename_i r hr
        refine fin _ rfl h ?_
        cases op <;> first | (simp only [strCmpB, reduceCtorEq] at hr; done) | (simp only [strCmpB, Option.some.injEq] at hr; subst hr; simp [binOp, Op.stringOp])
      · exact h.elim
  · rename_i a b
    simp only [Rep] at hx hy
    obtain ⟨rfl, _⟩ := hx
    obtain ⟨rfl, _⟩ := hy
    split at h
    · obtain ⟨r, he, h⟩ := h
      obtain ⟨e1, e2⟩ := he w
      exact ⟨_, .bool r, h, by simp only [Sem.run_bind, e1, Result.andThen_ok, binOp, e2, Sem.run_pure], by simp [Rep, Flat]⟩
    · obtain ⟨r, he, h⟩ := h
      obtain ⟨e1, e2⟩ := he w
      exact ⟨_, .bool (!r), h, by simp only [Sem.run_bind, e1, Result.andThen_ok, binOp, e2, Sem.run_pure], by simp [Rep, Flat]⟩
    · exact h.elim
  · rename_i a b
    simp only [Rep] at hx hy
    obtain ⟨us, rfl, hx2, _⟩ := hx
    obtain ⟨vs, rfl, hy2, _⟩ := hy
    split at h
    · obtain ⟨xs, ys, r, p1, p2, he, h⟩ := h
      obtain rfl := RepL.of_plain p1 hx2
      obtain rfl := RepL.of_plain p2 hy2
      obtain ⟨e1, e2⟩ := he w
      exact ⟨_, .bool r, h, by simp only [Sem.run_bind, e1, Result.andThen_ok, binOp, e2, Sem.run_pure], by simp [Rep, Flat]⟩
    · obtain ⟨xs, ys, r, p1, p2, he, h⟩ := h
      obtain rfl := RepL.of_plain p1 hx2
      obtain rfl := RepL.of_plain p2 hy2
      obtain ⟨e1, e2⟩ := he w
      exact ⟨_, .bool (!r), h, by simp only [Sem.run_bind, e1, Result.andThen_ok, binOp, e2, Sem.run_pure], by simp [Rep, Flat]⟩
    · exact h.elim
  · rename_i a b
    simp only [Rep] at hx hy
    obtain ⟨rfl, _⟩ := hx
    obtain ⟨rfl, _⟩ := hy
    split at h
    · rename_i ht
      exact ⟨_, .bool (a == b), h, by simp only [Sem.run_bind, guard_bool, Result.andThen_ok, binOp, equal_bool (hT t _ ht).und, Sem.run_pure], by simp [Rep, Flat]⟩
    · rename_i ht
      exact ⟨_, .bool (!(a == b)), h, by simp only [Sem.run_bind, guard_bool, Result.andThen_ok, binOp, equal_bool (hT t _ ht).und, Sem.run_pure], by simp [Rep, Flat]⟩
    · exact h.elim
  · rename_i a _ _
    simp only [Rep] at hx hy
    obtain ⟨rfl, _⟩ := hx
    obtain ⟨rfl, _⟩ := hy
    split at h
    · rename_i ht
      exact ⟨_, .bool a.isNone, h, by simp only [Sem.run_bind, guard_slice, Result.andThen_ok, binOp, equal_nil (hT t _ ht).und, Sem.run_pure], by simp [Rep, Flat]⟩
    · exact h.elim
  · rename_i sz _ len
    simp only [Rep] at hx hy
    obtain ⟨a, cap, xs, rfl, _, _, _, h6⟩ := hx
    obtain ⟨rfl, _⟩ := hy
    split at h
    · rename_i ht
      obtain ⟨h0, h⟩ := h
      rcases h6 with h6 | ⟨b, o, rfl, _⟩
      · exact absurd h6 h0
      · exact ⟨_, .bool false, h, by simp only [Sem.run_bind, guard_slice, Result.andThen_ok, binOp, equal_nil (hT t _ ht).und, Sem.run_pure]; rfl, by simp [Rep, Flat]⟩
    · exact h.elim
  · exact h.elim

theorem unK_sound {op : UnOp} {x : D} {K : D → Prop} {u : Value} (h : unK op x K) (hx : Rep w base loc x u) :
    ∃ d z, K d ∧ (Op.unary op u).run P w = .ok z w ∧ Rep w base loc d z := by
  unfold unK at h
  split at h
  all_goals first
    | exact h.elim
    | (simp only [Rep] at hx
       obtain ⟨rfl, _⟩ := hx
       refine ⟨_, _, h, rfl, ?_⟩
       simp [Rep, Flat])

theorem optI_run {s : St} {a : Act} (hev : ∀ x, Rep w base loc (s.ev x) (a.eval x)) {o : Option Operand} {l : Option Int} (h : optI s o = some l) :
    (o.map a.eval) = l.map (fun n => Value.int .i64 n) ∨ ∃ k n, o.map a.eval = some (.int k n) ∧ l = some n := by
  cases o with
  | none => simp only [optI, Option.some.injEq] at h; subst h; exact .inl rfl
  | some x =>
    simp only [optI] at h
    split at h
    · rename_i k n hx
      simp only [Option.some.injEq] at h
      subst h
      have := hev x
      rw [hx] at this
      simp only [Rep] at this
      exact .inr ⟨k, n, by simp [this.1], rfl⟩
    · simp at h

theorem run_bounds (isSlice : Bool) (len cap : Nat) {lo hi : Option Value} {l h : Option Int}
    (hl : lo = none ∧ l = none ∨ ∃ k n, lo = some (.int k n) ∧ l = some n) (hh : hi = none ∧ h = none ∨ ∃ k n, hi = some (.int k n) ∧ h = some n)
    (h0 : 0 ≤ l.getD 0) (h1 : l.getD 0 ≤ h.getD len) (h2 : h.getD len ≤ cap) :
    (Instr.sliceBounds isSlice len cap lo hi none).run P w = .ok ((l.getD 0).toNat, (h.getD (len : Int)).toNat, cap) w := by
  rcases hl with ⟨rfl, rfl⟩ | ⟨k, n, rfl, rfl⟩ <;> rcases hh with ⟨rfl, rfl⟩ | ⟨k', n', rfl, rfl⟩
  · simp [Instr.sliceBounds]
  · simp only [Option.getD_some, Option.getD_none] at h0 h1 h2
    simp [Instr.sliceBounds, run_sliceBound, h1, h2]
  · simp only [Option.getD_some, Option.getD_none] at h0 h1 h2
    simp [Instr.sliceBounds, run_sliceBound, h0, h1]
  · simp only [Option.getD_some] at h0 h1 h2
    have e : ((n'.toNat : Nat) : Int) = n' := by omega
    have h3 : 0 ≤ n' := by omega
    simp [Instr.sliceBounds, run_sliceBound, h0, h1, h2, e, h3]

theorem optI_cases {s : St} {a : Act} (hev : ∀ x, Rep w base loc (s.ev x) (a.eval x)) {o : Option Operand} {l : Option Int} (h : optI s o = some l) :
    (o.map a.eval = none ∧ l = none) ∨ ∃ k n, o.map a.eval = some (.int k n) ∧ l = some n := by
  cases o with
  | none => simp only [optI, Option.some.injEq] at h; subst h; exact .inl ⟨rfl, rfl⟩
  | some x =>
    simp only [optI] at h
    split at h
    · rename_i k n hx
      simp only [Option.some.injEq] at h
      subst h
      have := hev x
      rw [hx] at this
      simp only [Rep] at this
      exact .inr ⟨k, n, by simp [this.1], rfl⟩
    · simp at h

theorem sliceK_sound (hT : TOk P T) {s : St} {a : Act} (hev : ∀ x, Rep w base loc (s.ev x) (a.eval x)) (hm : MemOk w base loc s.m) {t : TypeId} {x : D} {lo hi mx : Option Operand} {K : D → Prop} {y : Value}
    (h : sliceK T s t x lo hi mx K) (hx : Rep w base loc x y) :
    ∃ d z, K d ∧ (Instr.sliceAt t y (lo.map a.eval) (hi.map a.eval) (mx.map a.eval)).run P w = .ok z w ∧ Rep w base loc d z := by
  unfold sliceK at h
  split at h
  · rename_i sz bs zr b l hh hti hlo hhi
    have hu := (hT t _ hti).und
    simp only [UOk] at hu
    simp only [Rep] at hx
    obtain ⟨rfl, _⟩ := hx
    obtain ⟨⟨h0, h1, h2⟩, h⟩ := h
    have hb := run_bounds (P := P) (w := w) false b.size b.size (optI_cases hev hlo) (optI_cases hev hhi) h0 h1 h2
    refine ⟨_, .string (b.extract (l.getD 0).toNat (hh.getD (b.size : Int)).toNat), h, ?_, by simp only [Rep, true_and]; rfl⟩
    simp [Instr.sliceAt, Instr.slice, run_under hu, hb]
  · rename_i e sz bs zr f s' id off len l hh hti hlo hhi
    have hu := (hT t _ hti).und
    simp only [UOk] at hu
    split at h
    · rename_i i hte
      rw [asrt_iff] at h
      obtain ⟨hsz, ⟨h0, h1, h2⟩, h⟩ := h
      obtain rfl : s' = i.size := by simpa using hsz
      simp only [Rep] at hx
      obtain ⟨a0, cap, l', n', rfl, h3, h4, h5, h6, h7⟩ := hx
      have hb := run_bounds (P := P) (w := w) true len cap (optI_cases hev hlo) (optI_cases hev hhi) h0 h1 (by omega)
      refine ⟨_, sliced a0 (l.getD 0).toNat (hh.getD (len : Int)).toNat cap i.size, h, ?_, ?_⟩
      · simp [Instr.sliceAt, Instr.slice, run_under hu, hb, run_size hT hte, sliced]
      · simp only [Rep, sliced]
        have hle : (hh.getD (len : Int)).toNat ≤ len := by omega
        have hlh : (l.getD 0).toNat ≤ (hh.getD (len : Int)).toNat := by omega
        refine ⟨_, _, l', n', rfl, by omega, h4, ?_, by simp, ?_⟩
        · have : (l.getD 0).toNat * i.size + ((hh.getD (len : Int)).toNat - (l.getD 0).toNat) * i.size ≤ len * i.size := by
            rw [← Nat.add_mul]; exact Nat.mul_le_mul_right _ (by omega)
          omega
        · cases l' with
          | none => simp only at h7 ⊢; omega
          | some b =>
            obtain ⟨o, rfl, h8, _⟩ := h7
            by_cases hc : cap = (l.getD 0).toNat
            · simp only [hc, if_true]
              exact ⟨o, rfl, fun hne => by omega, by simp⟩
            · simp only [hc, if_false]
              refine ⟨o + (l.getD 0).toNat * i.size, by simp [addr_add], fun hne => ?_, by simp⟩
              rw [h8 (by omega)]
    · exact h.elim
  · rename_i e sz bs zr m s' c len l hh hti hlo hhi
    have hu := (hT t _ hti).und
    simp only [UOk] at hu
    split at h
    · rename_i i hte
      rw [asrt_iff] at h
      obtain ⟨hsz, ⟨h0, h1, h2⟩, h⟩ := h
      obtain rfl : s' = i.size := by simpa using hsz
      simp only [Rep] at hx
      obtain ⟨a0, cap, xs, rfl, h3, h4, h5, h6, _⟩ := hx
      obtain ⟨d, g1, g2, g3⟩ := subK_sound h h4
      have hb := run_bounds (P := P) (w := w) true len cap (optI_cases hev hlo) (optI_cases hev hhi) h0 h1 (by omega)
      refine ⟨_, sliced a0 (l.getD 0).toNat (hh.getD (len : Int)).toNat cap i.size, g1, ?_, ?_⟩
      · simp [Instr.sliceAt, Instr.slice, run_under hu, hb, run_size hT hte, sliced]
      · simp only [Rep, sliced]
        have hle : (hh.getD (len : Int)).toNat ≤ len := by omega
        have hlh : (l.getD 0).toNat ≤ (hh.getD (len : Int)).toNat := by omega
        refine ⟨_, _, _, rfl, by omega, g3, by simp; omega, ?_, (by simp)⟩
        by_cases hz : ((hh.getD (len : Int)).toNat - (l.getD 0).toNat) * i.size = 0
        · exact .inl hz
        · have hz1 : (hh.getD (len : Int)).toNat - (l.getD 0).toNat ≠ 0 := fun e => hz (by simp [e])
          have hz2 : i.size ≠ 0 := fun e => hz (by simp [e])
          rcases h6 with h6 | ⟨b, o, rfl, g4, g5, g6⟩
          · exfalso; rcases Nat.mul_eq_zero.1 h6 with h6 | h6 <;> omega
          · right
            have hc : ¬ cap = (l.getD 0).toNat := by omega
            simp only [hc, if_false]
            exact ⟨b, _, by simp [addr_add], g4.sub _ _ g2, g5, (by simp)⟩
    · exact h.elim
  · rename_i n e sz bs zr id off l hh hti hlo hhi
    have hu := (hT t _ hti).und
    simp only [UOk] at hu
    split at h
    · rename_i i c hte hc
      obtain ⟨⟨h0, h1, h2, hw⟩, h⟩ := h
      simp only [Rep] at hx
      obtain ⟨b, n', g1, rfl⟩ := hx
      obtain ⟨l', xs, k1, k23⟩ := hm id c hc
      rw [g1] at k1
      simp only [Option.some.injEq, Prod.mk.injEq] at k1
      obtain ⟨rfl, rfl⟩ := k1
      have hwx : (widC c).getD 0 ≤ xs.length := by
        rcases k23 with ⟨k2, _⟩ | ⟨x, b, rfl, _⟩
        rotate_left
        · simp [widC]
        cases c with
        | v x' =>
          cases x' with
          | agg arr => simp only [Rep, Value.agg.injEq] at k2; obtain ⟨rfl, _⟩ := k2; simp [widC]
          | _ => simp [widC]
        | agg ds => simp only [Rep, Value.agg.injEq, Array.mk.injEq] at k2; obtain ⟨vs, rfl, k4, _⟩ := k2; simp [widC, k4.length]
        | _ => simp [widC]
      have hb := run_bounds (P := P) (w := w) false n n (optI_cases hev hlo) (optI_cases hev hhi) h0 h1 h2
      have hle : (hh.getD (n : Int)).toNat ≤ n := by omega
      have hlh : (l.getD 0).toNat ≤ (hh.getD (n : Int)).toNat := by omega
      refine ⟨_, .slice (some (if n = (l.getD 0).toNat then ⟨b, off, none⟩ else ⟨b, off + (l.getD 0).toNat * i.size, none⟩)) ((hh.getD (n : Int)).toNat - (l.getD 0).toNat) (n - (l.getD 0).toNat), h, ?_, ?_⟩
      · simp [Instr.sliceAt, run_under hu, Instr.sureAddr, hb, run_size hT hte, addr_add]
      · simp only [Rep]
        refine ⟨_, _, some b, xs.length, rfl, by omega, g1, ?_, by simp, ?_⟩
        · have : (l.getD 0).toNat * i.size + ((hh.getD (n : Int)).toNat - (l.getD 0).toNat) * i.size ≤ n * i.size := by
            rw [← Nat.add_mul]; exact Nat.mul_le_mul_right _ (by omega)
          omega
        · by_cases hcn : n = (l.getD 0).toNat
          · rw [if_pos hcn]
            exact ⟨off, rfl, fun hne => by omega, by simp⟩
          · rw [if_neg hcn]
            exact ⟨_, rfl, fun _ => rfl, by simp⟩
    · exact h.elim
  · rename_i n e sz bs zr m c off l hh hti hlo hhi
    have hu := (hT t _ hti).und
    simp only [UOk] at hu
    split at h
    · rename_i i hte
      obtain ⟨⟨h0, h1, h2⟩, h⟩ := h
      simp only [Rep] at hx
      obtain ⟨b, o, xs, rfl, k1, k2, k3, k4⟩ := hx
      obtain ⟨d, g1, g2, g3⟩ := subK_sound h k4
      have hb := run_bounds (P := P) (w := w) false n n (optI_cases hev hlo) (optI_cases hev hhi) h0 h1 h2
      have hle : (hh.getD (n : Int)).toNat ≤ n := by omega
      have hlh : (l.getD 0).toNat ≤ (hh.getD (n : Int)).toNat := by omega
      refine ⟨_, .slice (some (if n = (l.getD 0).toNat then ⟨b, o + off, none⟩ else ⟨b, o + off + (l.getD 0).toNat * i.size, none⟩)) ((hh.getD (n : Int)).toNat - (l.getD 0).toNat) (n - (l.getD 0).toNat), g1, ?_, ?_⟩
      · simp [Instr.sliceAt, run_under hu, Instr.sureAddr, hb, run_size hT hte, addr_add]
      · simp only [Rep]
        refine ⟨_, _, _, rfl, by omega, g3, by rw [List.length_take, List.length_drop]; omega, ?_, (by simp)⟩
        by_cases hz : ((hh.getD (n : Int)).toNat - (l.getD 0).toNat) * i.size = 0
        · exact .inl hz
        · right
          have hz1 : (hh.getD (n : Int)).toNat - (l.getD 0).toNat ≠ 0 := fun e => hz (by simp [e])
          have hcn : ¬ n = (l.getD 0).toNat := by omega
          rw [if_neg hcn, Nat.add_assoc]
          exact ⟨b, _, rfl, k1.sub _ _ g2, k2, (by simp)⟩
    · exact h.elim
  · exact h.elim

end
end Go.V
/- The abstract states are sound, fourth part: what makes memory, and calls. -/
set_option linter.unusedVariables false
set_option linter.unusedSimpArgs false
set_option linter.unusedSectionVars false
namespace Go.V
variable [Globs]

section
variable {P : Program} {T : Types} {w : World} {base : Nat} {loc : Loc}

theorem splice_set {α : Type} (l : List α) (k : Nat) (v : α) (rest : List α) (hk : k < l.length) : splice (l.set k v) (k + 1) rest = splice l k (v :: rest) := by
  unfold splice
  rw [List.take_set, List.drop_set_of_lt (by omega)]
  have : (l.take (k + 1)).set k v = l.take k ++ [v] := by
    rw [List.take_succ_eq_append_getElem hk, List.set_append_right _ _ (by simp; omega)]
    simp
    have : k - min k l.length = 0 := by omega
    rw [this]; rfl
  rw [this]
  simp [Nat.add_assoc, Nat.add_comm 1]

theorem foldl_set (off : Nat) : ∀ (us : List Value) (k : Nat) (cells : Array Value), off + k + us.length ≤ cells.size →
    ((us.zipIdx k).foldl (fun (cs : Array Value) (p : Value × Nat) => cs.setIfInBounds (off + p.2) p.1) cells).toList = splice cells.toList (off + k) us
  | [], k, cells, h => by simp [splice]
  | u :: us, k, cells, h => by
    simp only [List.zipIdx_cons, List.foldl_cons]
    simp only [List.length_cons] at h
    rw [foldl_set off us (k + 1) _ (by simp; omega)]
    rw [Array.toList_setIfInBounds]
    have := splice_set cells.toList (off + k) u us (by simp; omega)
    rw [← this]
    rfl

theorem all_splice {p : Value → Bool} {xs ys : List Value} (off : Nat) (h : xs.all p = true) (h' : ys.all p = true) : (splice xs off ys).all p = true := by
  simp only [List.all_eq_true] at h h' ⊢
  intro x hx
  unfold splice at hx
  rcases List.mem_append.1 hx with hx | hx
  · rcases List.mem_append.1 hx with hx | hx
    · exact h x (List.mem_of_mem_take hx)
    · exact h' x hx
  · exact h x (List.mem_of_mem_drop hx)

theorem splice_length {α : Type} (xs ys : List α) (off : Nat) (h : off + ys.length ≤ xs.length) : (splice xs off ys).length = xs.length := by
  unfold splice; simp; omega

theorem ev_parts {s : St} {a : Act} (hev : ∀ x, Rep w base loc (s.ev x) (a.eval x)) :
    ∀ (parts : List (Nat × Operand)), ∀ p ∈ parts.map (fun p => (p.1, s.ev p.2, a.eval p.2)), Rep w base loc p.2.1 p.2.2 := by
  intro parts p hp
  obtain ⟨q, _, rfl⟩ := List.mem_map.1 hp
  exact hev _

theorem scalar_cells {d : D} {y : Value} (h : Rep w base loc d y) (h1 : d ≠ .junk) (h2 : ∀ ds, d ≠ .tup ds) (h3 : ∀ ds, d ≠ .agg ds) (h4 : ∀ a, d ≠ .v (.agg a)) : y.cells = #[y] ∧ y.oneCell' = true := by
  cases d with
  | junk => exact absurd rfl h1
  | tup ds => exact absurd rfl (h2 ds)
  | agg ds => exact absurd rfl (h3 ds)
  | v x =>
    simp only [Rep] at h
    obtain ⟨rfl, hf⟩ := h
    cases y with
    | agg a => exact absurd rfl (h4 a)
    | tuple a => simp [Flat] at hf
    | _ => exact ⟨rfl, rfl⟩
  | ptr id off => simp only [Rep] at h; obtain ⟨_, _, _, rfl⟩ := h; exact ⟨rfl, rfl⟩
  | slc f sz id off len => simp only [Rep] at h; obtain ⟨_, _, _, _, rfl, _⟩ := h; exact ⟨rfl, rfl⟩
  | ref m c off => simp only [Rep] at h; obtain ⟨_, _, _, rfl, _⟩ := h; exact ⟨rfl, rfl⟩
  | row m sz c len => simp only [Rep] at h; obtain ⟨_, _, _, rfl, _⟩ := h; exact ⟨rfl, rfl⟩
  | fn f a b => simp only [Rep] at h; obtain ⟨_, _, rfl, _⟩ := h; exact ⟨rfl, rfl⟩
  | mr id => simp only [Rep] at h; obtain ⟨_, _, _, rfl⟩ := h; exact ⟨rfl, rfl⟩
  | obj x => simp [Rep] at h

theorem fill_sound {place : Nat → Option (Nat × Nat)} {s : St} {a : Act} (hev : ∀ x, Rep w base loc (s.ev x) (a.eval x)) :
    ∀ (parts : List (Nat × Operand)) (cells : List D) (vs : List Value) (ds : List D), RepL w base loc cells vs → vs.all Value.oneCell' = true →
      fillD place cells (parts.map fun p => (p.1, s.ev p.2)) = some ds →
      ∃ us, Instr.fill place ⟨vs⟩ (parts.map fun p => (p.1, a.eval p.2)) = some ⟨us⟩ ∧ RepL w base loc ds us ∧ us.all Value.oneCell' = true ∧ us.length = vs.length
  | [], cells, vs, ds, hc, h1, h => by
    simp only [List.map_nil, fillD, Option.some.injEq] at h
    subst h
    exact ⟨vs, rfl, hc, h1, rfl⟩
  | (i, x) :: parts, cells, vs, ds, hc, h1, h => by
    simp only [List.map_cons, fillD] at h
    have hx := hev x
    have hlen := hc.length
    have step : ∀ (off size : Nat) (us : List Value) (es : List D), place i = some (off, size) → (a.eval x).cells = ⟨us⟩ → us.length = size → off + size ≤ cells.length → RepL w base loc es us → us.all Value.oneCell' = true →
        fillD place (splice cells off es) (parts.map fun p => (p.1, s.ev p.2)) = some ds →
        ∃ us', Instr.fill place ⟨vs⟩ (((i, x) :: parts).map fun p => (p.1, a.eval p.2)) = some ⟨us'⟩ ∧ RepL w base loc ds us' ∧ us'.all Value.oneCell' = true ∧ us'.length = vs.length := by
      intro off size us es hp hcs hl hle hr hone hf
      obtain ⟨us', g1, g2, g3, g4⟩ := fill_sound hev parts (splice cells off es) (splice vs off us) ds (hc.splice off hr) (all_splice off h1 hone) hf
      refine ⟨us', ?_, g2, g3, by rw [g4, splice_length _ _ _ (by omega)]⟩
      simp only [List.map_cons, Instr.fill, hp, hcs]
      have hcond : (decide ((⟨us⟩ : Array Value).size ≠ size) || decide (off + (⟨us⟩ : Array Value).size > (⟨vs⟩ : Array Value).size)) = false := by
        simp [hl]; omega
      simp only [hcond, Bool.false_eq_true, if_false]
      rw [← g1]
      congr 1
      apply Array.ext'
      rw [← Array.foldl_toList]
      have := foldl_set off us 0 ⟨vs⟩ (by simp; omega)
      simpa using this
    split at h
    · simp at h
    · rename_i off size hp
      split at h
      · rename_i arr he
        rw [he] at hx
        simp only [Rep] at hx
        obtain ⟨hy, hf⟩ := hx
        cases hb : (arr.toList.length == size && Nat.ble (off + size) cells.length) <;> simp only [hb, cond_true, cond_false] at h
        · simp at h
        · simp only [Bool.and_eq_true, beq_iff_eq] at hb
          simp only [Flat] at hf
          exact step off size arr.toList _ hp (by rw [hy]; rfl) hb.1 (Nat.le_of_ble_eq_true hb.2) (.vals hf) hf h
      · rename_i es he
        rw [he] at hx
        simp only [Rep] at hx
        obtain ⟨us, hy, hr, hone⟩ := hx
        cases hb : (es.length == size && Nat.ble (off + size) cells.length) <;> simp only [hb, cond_true, cond_false] at h
        · simp at h
        · simp only [Bool.and_eq_true, beq_iff_eq] at hb
          exact step off size us es hp (by rw [hy]; rfl) (by rw [← hr.length]; exact hb.1) (Nat.le_of_ble_eq_true hb.2) hr hone h
      · simp at h
      · simp at h
      · rename_i d h2 h3 h4 h5
        cases hb : (size == 1 && Nat.ble (off + 1) cells.length) <;> simp only [hb, cond_true, cond_false] at h
        · simp at h
        · simp only [Bool.and_eq_true, beq_iff_eq] at hb
          obtain ⟨rfl, hb⟩ := hb
          have hb := Nat.le_of_ble_eq_true hb
          obtain ⟨hy, hone⟩ := scalar_cells hx (by intro e; exact h4 e) (by intro ds e; exact h5 ds e) (by intro ds e; exact h3 ds e) (by intro a e; exact h2 a e)
          refine step off 1 [a.eval x] [s.ev x] hp hy rfl (by omega) (by simp only [RepL]; exact ⟨_, _, rfl, hx, rfl⟩) (by simp [hone]) ?_
          rw [← h]
          congr 1
          have := splice_set cells off (s.ev x) [] (by omega)
          rw [← this]
          simp [splice]

theorem rep_succ {α : Type} (n : Nat) (xs : List α) : rep (n + 1) xs = rep n xs ++ xs := by
  simp [rep, List.replicate_succ', List.flatten_append]
theorem rep_length {α : Type} (n : Nat) (xs : List α) : (rep n xs).length = n * xs.length := by
  induction n with
  | zero => simp [rep]
  | succ n ih => rw [rep_succ, List.length_append, ih, Nat.add_mul, Nat.one_mul]
theorem rep_add {α : Type} (n m : Nat) (xs : List α) : rep (n + m) xs = rep n xs ++ rep m xs := by
  induction m with
  | zero => simp [rep]
  | succ m ih => rw [← Nat.add_assoc, rep_succ, ih, rep_succ, List.append_assoc]
theorem all_rep {p : Value → Bool} {xs : List Value} (n : Nat) (h : xs.all p = true) : (rep n xs).all p = true := by
  induction n with
  | zero => simp [rep]
  | succ n ih => rw [rep_succ, List.all_append, ih, h]; rfl
theorem RepL.rep {ds : List D} {vs : List Value} (n : Nat) (h : RepL w base loc ds vs) : RepL w base loc (rep n ds) (rep n vs) := by
  induction n with
  | zero => simp [V.rep, RepL]
  | succ n ih => rw [rep_succ, rep_succ]; exact ih.append h

theorem zeros_rep (z : Array Value) (n : Nat) : ((Array.range (n * z.size)).map (fun i => z[i % z.size]!)).toList = rep n z.toList := by
  induction n with
  | zero => simp [rep]
  | succ n ih =>
    rw [rep_succ, ← ih, Nat.add_mul, Nat.one_mul]
    simp only [Array.toList_map, Array.toList_range, List.range_add, List.map_append, List.map_map]
    congr 1
    apply List.ext_getElem
    · simp
    · intro i h1 h2
      simp at h1 h2
      have : (n * z.size + i) % z.size = i := by rw [Nat.mul_comm, Nat.mul_add_mod, Nat.mod_eq_of_lt h1]
      simp [this, h1]

theorem foldl_push (l : List UInt8) : ∀ r : ByteArray, ((l.map fun b => ((b.toNat : Nat) : Int)).foldl (fun r n => r.push (UInt8.ofNat n.toNat)) r).data.toList = r.data.toList ++ l := by
  induction l with
  | nil => intro r; simp
  | cons b l ih =>
    intro r
    simp only [List.map_cons, List.foldl_cons]
    rw [ih]
    simp [ByteArray.push]

theorem bytes_back (b : ByteArray) : ((b.data.toList.map fun b => ((b.toNat : Nat) : Int)).foldl (fun r n => r.push (UInt8.ofNat n.toNat)) ByteArray.empty) = b := by
  have := foldl_push b.data.toList ByteArray.empty
  have e : ∀ x y : ByteArray, x.data.toList = y.data.toList → x = y := by
    intro x y h
    obtain ⟨⟨x⟩⟩ := x
    obtain ⟨⟨y⟩⟩ := y
    simp at h
    rw [h]
  apply e
  rw [this]
  rfl

theorem contOf_sound {s : St} (hm : MemOk w base loc s.m) {x : D} {y : Value} {m : Bool} {c : D} {n sz : Nat} (hx : Rep w base loc x y) (hc : contOf s x = some (m, c)) (hl : lenD x = some n) (hs : szOf x = some sz ∨ n = 0) :
    ∃ a cap xs, y = .slice a n cap ∧ n ≤ cap ∧ Rep w base loc c (.agg ⟨xs⟩) ∧ (szOf x = some sz → xs.length = n * sz) ∧ (xs.length = 0 ∨ ∃ b o, a = some ⟨b, o, none⟩ ∧ At w b o xs) := by
  cases x with
  | slc f s' id off len =>
    simp only [lenD, Option.some.injEq] at hl
    subst hl
    simp only [szOf, Option.some.injEq] at hs ⊢
    simp only [Rep] at hx
    obtain ⟨a, cap, l, n', rfl, h3, h4, h5, h6, h7⟩ := hx
    have main : ∀ c0 c', s.m id = some c0 → (∀ x, c0 ≠ .obj x) → (∀ xs, Rep w base loc c0 (.agg ⟨xs⟩) → Rep w base loc c' (.agg ⟨(xs.drop off).take (len * s')⟩)) → c' = c →
        ∃ a' cap' xs, Value.slice a len cap = .slice a' len cap' ∧ len ≤ cap' ∧ Rep w base loc c (.agg ⟨xs⟩) ∧ (s' = sz → xs.length = len * sz) ∧ (xs.length = 0 ∨ ∃ b o, a' = some ⟨b, o, none⟩ ∧ At w b o xs) := by
      rintro c0 c' hc0 hno hcc rfl
      obtain ⟨l', xs, g1, g23⟩ := hm id c0 hc0
      obtain ⟨g2, g3⟩ := g23.cells hno
      rw [h4] at g1
      simp only [Option.some.injEq, Prod.mk.injEq] at g1
      obtain ⟨rfl, rfl⟩ := g1
      have hlen : ((xs.drop off).take (len * s')).length = len * s' := by simp; omega
      refine ⟨a, cap, _, rfl, h3, hcc xs g2, fun e => by rw [hlen, e], ?_⟩
      rw [hlen]
      by_cases hz : len * s' = 0
      · exact .inl hz
      · right
        have hl0 : len ≠ 0 := fun e => hz (by simp [e])
        cases l with
        | none => omega
        | some b =>
          obtain ⟨o, rfl, k2, _⟩ := h7
          refine ⟨b, o, rfl, ?_⟩
          have := (At.of_blk g3).sub off (len * s') h5
          rw [Nat.zero_add] at this
          rw [k2 hl0]
          exact this
    simp only [contOf] at hc
    split at hc
    · rename_i arr ha
      simp only [Option.some.injEq, Prod.mk.injEq] at hc
      refine main _ _ ha (by simp) (fun xs hx => ?_) hc.2
      simp only [Rep, Value.agg.injEq] at hx ⊢
      obtain ⟨rfl, hf⟩ := hx
      refine ⟨rfl, ?_⟩
      simp only [Flat, List.all_eq_true] at hf ⊢
      exact fun x hx => hf x (List.mem_of_mem_drop (List.mem_of_mem_take hx))
    · rename_i ds ha
      simp only [Option.some.injEq, Prod.mk.injEq] at hc
      refine main _ _ ha (by simp) (fun xs hx => ?_) hc.2
      simp only [Rep, Value.agg.injEq, Array.mk.injEq] at hx ⊢
      obtain ⟨vs, rfl, h2, h3⟩ := hx
      refine ⟨_, rfl, (h2.drop off).take _, ?_⟩
      simp only [List.all_eq_true] at h3 ⊢
      exact fun x hx => h3 x (List.mem_of_mem_drop (List.mem_of_mem_take hx))
    · simp at hc
  | row mi s' c' len =>
    simp only [lenD, Option.some.injEq] at hl
    subst hl
    simp only [szOf, Option.some.injEq] at hs ⊢
    simp only [contOf, Option.some.injEq, Prod.mk.injEq] at hc
    obtain ⟨_, rfl⟩ := hc
    simp only [Rep] at hx
    obtain ⟨a, cap, xs, rfl, h3, h4, h5, h6⟩ := hx
    refine ⟨a, cap, xs, rfl, h3, h4, fun e => by rw [h5, e], ?_⟩
    rcases h6 with h6 | ⟨b, o, g1, g2, _⟩
    · exact .inl (by omega)
    · exact .inr ⟨b, o, g1, g2⟩
  | v x' =>
    unfold contOf at hc
    unfold lenD at hl
    split at hc
    · rename_i h; simp at h
    · rename_i h; simp at h
    · rename_i h
      simp only [D.v.injEq] at h
      subst h
      simp only [Option.some.injEq, Prod.mk.injEq] at hc
      obtain ⟨_, rfl⟩ := hc
      simp only [Option.some.injEq] at hl
      subst hl
      simp only [Rep] at hx
      obtain ⟨rfl, _⟩ := hx
      exact ⟨none, 0, [], rfl, Nat.le_refl _, by simp [Rep, Flat], fun _ => by simp, .inl rfl⟩
    · simp at hc
  | _ => simp [contOf] at hc

end
end Go.V
/- The abstract states are sound, fifth part: all operations that write to no cell that was there. -/
set_option linter.unusedVariables false
set_option linter.unusedSimpArgs false
set_option linter.unusedSectionVars false
namespace Go.V
variable [Globs]

structure Ctx (P : Program) (T : Types) (w : World) (base : Nat) (loc : Loc) (s : St) (a : Act) : Prop where
  types : TOk P T
  ev : ∀ x, Rep w base loc (s.ev x) (a.eval x)
  mem : MemOk w base loc s.m
  le : base ≤ w.heap.size
  range : ∀ id b n, loc id = some (some b, n) → b < w.heap.size
  cnt : ∀ id l, loc id = some l → id.1 < lentKey → id.2.1 < s.c id.1
  glob : GlobOk w loc

mutual
theorem Rep.clean {base' base : Nat} {w w' : World} {loc loc' : Loc} (hle : base' ≤ base)
    (hold : ∀ b k e fr, base ≤ b → w.heap[b]? = some (.cells k e fr) → loc.avoids b → w'.heap[b]? = some (.cells k e fr) ∧ loc'.avoids b) :
    ∀ (d : D) (y : Value), clean d = true → Rep w base loc d y → Rep w' base' loc' d y
  | .junk, _, _, _ => by simp [Rep]
  | .mr _, _, hc, _ => by simp [V.clean] at hc
  | .obj _, _, hc, _ => by simp [V.clean] at hc
  | .v x, y, _, hr => by simpa only [Rep] using hr
  | .ptr id off, y, hc, _ => by simp [V.clean] at hc
  | .slc full sz id off len, y, hc, _ => by simp [V.clean] at hc
  | .ref mine c off, y, hc, hr => by
    simp only [V.clean, Bool.and_eq_true] at hc
    simp only [Rep] at hr ⊢
    obtain ⟨b, o, xs, h1, ⟨k, e, fr, h2, h2'⟩, h3, h4, h5⟩ := hr
    obtain ⟨g1, g2⟩ := hold b k e fr (h4 hc.1) h2 h3
    exact ⟨b, o, xs, h1, ⟨k, e, fr, g1, h2'⟩, g2, fun hm => Nat.le_trans hle (h4 hm), Rep.clean hle hold c _ hc.2 h5⟩
  | .row mine sz c len, y, hc, hr => by
    simp only [V.clean, Bool.and_eq_true] at hc
    simp only [Rep] at hr ⊢
    obtain ⟨a, cap, xs, h1, h2, h3, h4, h5, hO⟩ := hr
    refine ⟨a, cap, xs, h1, h2, Rep.clean hle hold c _ hc.2 h3, h4, ?_, fun hm => ?_⟩
    rotate_left
    · rcases hO hm with hO | ⟨b, k, e, q1, q2, q3, q4, q5⟩
      · exact .inl hO
      · obtain ⟨r1, r2⟩ := hold b k e (0, 0) q3 q4 q2
        exact .inr ⟨b, k, e, q1, r2, Nat.le_trans hle q3, r1, q5⟩
    rcases h5 with h5 | ⟨b, o, g1, ⟨k, e, fr, g2, g2'⟩, g3, g4⟩
    · exact .inl h5
    · obtain ⟨g5, g6⟩ := hold b k e fr (g4 hc.1) g2 g3
      exact .inr ⟨b, o, g1, ⟨k, e, fr, g5, g2'⟩, g6, fun hm => Nat.le_trans hle (g4 hm)⟩
  | .agg ds, y, hc, hr => by
    simp only [V.clean] at hc
    simp only [Rep] at hr ⊢
    obtain ⟨vs, h1, h2, h3⟩ := hr
    exact ⟨vs, h1, RepL.clean hle hold ds vs hc h2, h3⟩
  | .tup ds, y, hc, hr => by
    simp only [V.clean] at hc
    simp only [Rep] at hr ⊢
    obtain ⟨vs, h1, h2⟩ := hr
    exact ⟨vs, h1, RepL.clean hle hold ds vs hc h2⟩
  | .fn f first caps, y, hc, hr => by
    simp only [V.clean, Bool.and_eq_true] at hc
    simp only [Rep] at hr ⊢
    obtain ⟨a, b, h1, h2, h3⟩ := hr
    exact ⟨a, b, h1, RepL.clean hle hold first a hc.1 h2, RepL.clean hle hold caps b hc.2 h3⟩
theorem RepL.clean {base' base : Nat} {w w' : World} {loc loc' : Loc} (hle : base' ≤ base)
    (hold : ∀ b k e fr, base ≤ b → w.heap[b]? = some (.cells k e fr) → loc.avoids b → w'.heap[b]? = some (.cells k e fr) ∧ loc'.avoids b) :
    ∀ (ds : List D) (vs : List Value), cleanL ds = true → RepL w base loc ds vs → RepL w' base' loc' ds vs
  | [], vs, _, hr => by simpa only [RepL] using hr
  | d :: ds, vs, hc, hr => by
    simp only [V.cleanL, Bool.and_eq_true] at hc
    simp only [RepL] at hr ⊢
    obtain ⟨y, ys, h1, h2, h3⟩ := hr
    exact ⟨y, ys, h1, Rep.clean hle hold d y hc.1 h2, RepL.clean hle hold ds ys hc.2 h3⟩
end

theorem cleanL_get : ∀ {ds : List D} {j : Nat} {d : D}, cleanL ds = true → ds[j]? = some d → clean d = true
  | [], j, d, _, h => by simp at h
  | e :: ds, j, d, hc, h => by
    simp only [cleanL, Bool.and_eq_true] at hc
    cases j with
    | zero => simp at h; subst h; exact hc.1
    | succ j => simp at h; exact cleanL_get hc.2 h

theorem hasRow_imp : ∀ {ds : List D} (i c j : Nat), hasRow ds = false → impL i c j ds = ds
  | [], i, c, j, _ => rfl
  | d :: ds, i, c, j, h => by
    cases d <;> first | (simp only [hasRow, reduceCtorEq] at h; done) | (simp only [hasRow] at h; simp only [impL, impD, hasRow_imp i c (j + 1) h])
theorem hasRow_C : ∀ {ds : List D} (j : Nat), hasRow ds = false → impC ds j = none
  | [], j, _ => by simp [impC]
  | d :: ds, j, h => by
    have h' : hasRow ds = false ∧ rowC d = none := by cases d <;> simp_all [hasRow, rowC]
    cases j with
    | zero => simp [impC, h'.2]
    | succ j => simpa [impC] using hasRow_C j h'.1

section
variable {P : Program} {T : Types} {w : World} {base : Nat} {loc : Loc}

/-- What a call hands back, as an effect. -/
theorem eff_of_res {w' : World} {res : D} {y : Value} {locr : Loc} {i : Nat} {c : Nat → Nat} (hle : base ≤ w.heap.size) (hrange : ∀ id b n, loc id = some (some b, n) → b < w.heap.size)
    (hb : RowKit.Below w.heap.size w w') (h : ResRep w' w.heap.size res y locr) : EffRel base c (some i) w loc w' y (Eff.ofRes i (c i) res) := by
  have hnew : ∀ (g : Nat → Option (Option Nat × Nat)), (∀ j b n, g j = some (some b, n) → ∃ id, locr id = some (some b, n)) → ∀ b, w.heap.size ≤ b → locr.avoids b → (locR loc i (c i) g).avoids b := by
    intro g hg b hbb hv id n he
    unfold locR at he
    cases hcase : (id.1 == i && id.2.1 == c i) <;> simp only [hcase, cond_true, cond_false] at he
    · have := hrange _ _ _ he; omega
    · obtain ⟨id', h'⟩ := hg _ _ _ he
      exact hv id' n h'
  unfold Eff.ofRes
  cases hrow : hasRow (tops res) with
  | false =>
    simp only [cond_false, EffRel]
    refine ⟨hb, ?_⟩
    have hno : ∀ id l, locr id ≠ some l := by
      intro id l he
      have := (h.key id l he).2.2
      rw [hasRow_C _ hrow] at this
      simp at this
    have himp : impV 0 0 res = res := by
      cases res with
      | tup ds => simp only [impV]; rw [hasRow_imp 0 0 0 (by simpa only [tops] using hrow)]
      | row => simp [tops, hasRow] at hrow
      | _ => rfl
    have hr := h.rep
    rw [himp] at hr
    have hold : ∀ b k e fr, w.heap.size ≤ b → w'.heap[b]? = some (.cells k e fr) → locr.avoids b → w'.heap[b]? = some (.cells k e fr) ∧ loc.avoids b := by
      intro b k e fr hbb hk _
      exact ⟨hk, fun id n he => by have := hrange _ _ _ he; omega⟩
    have hc := h.new
    cases res with
    | tup ds =>
      simp only [Rep] at hr ⊢
      obtain ⟨vs, h1, h2⟩ := hr
      exact ⟨vs, h1, RepL.clean hle hold _ _ (by simpa only [tops] using hc) h2⟩
    | _ => exact Rep.clean hle hold _ _ (by simpa only [tops, cleanL, Bool.and_true] using hc) hr
  | true =>
    simp only [cond_true, EffRel]
    refine ⟨hb, i, fun j => locr (0, 0, j), rfl, ?_⟩
    have hid : ∀ id l, locr id = some l → id = (0, 0, id.2.2) := by
      intro id l he
      obtain ⟨h1, h2, _⟩ := h.key id l he
      obtain ⟨x, y, z⟩ := id
      simp only at h1 h2
      subst h1; subst h2; rfl
    have hold : ∀ b k e fr, w.heap.size ≤ b → w'.heap[b]? = some (.cells k e fr) → locr.avoids b → w'.heap[b]? = some (.cells k e fr) ∧ (locR loc i (c i) fun j => locr (0, 0, j)).avoids b :=
      fun b k e fr hbb hk hv => ⟨hk, hnew _ (fun j b n he => ⟨_, he⟩) b hbb hv⟩
    have hat : ∀ j, (locR loc i (c i) fun j => locr (0, 0, j)) (i, c i, j) = locr (0, 0, j) := by intro j; simp [locR]
    have one : ∀ (d : D) (j : Nat) (z : Value), clean d = true → Rep w' w.heap.size locr (impD 0 0 j d) z → Rep w' base (locR loc i (c i) fun j => locr (0, 0, j)) (impD i (c i) j d) z := by
      intro d j z hc hr
      cases d with
      | row m sz cc len =>
        simp only [impD, Rep] at hr ⊢
        rw [hat j]
        exact hr
      | _ => exact Rep.clean hle hold _ _ hc (by simpa only [impD] using hr)
    have many : ∀ (ds : List D) (j : Nat) (zs : List Value), cleanL ds = true → RepL w' w.heap.size locr (impL 0 0 j ds) zs → RepL w' base (locR loc i (c i) fun j => locr (0, 0, j)) (impL i (c i) j ds) zs := by
      intro ds
      induction ds with
      | nil => intro j zs _ hr; simpa only [impL, RepL] using hr
      | cons d ds ih =>
        intro j zs hc hr
        simp only [cleanL, Bool.and_eq_true] at hc
        simp only [impL, RepL] at hr ⊢
        obtain ⟨z, zs', h1, h2, h3⟩ := hr
        exact ⟨z, zs', h1, one d j z hc.1 h2, ih (j + 1) zs' hc.2 h3⟩
    have hc := h.new
    constructor
    · have hr := h.rep
      cases res with
      | tup ds =>
        simp only [impV, Rep] at hr ⊢
        obtain ⟨vs, h1, h2⟩ := hr
        exact ⟨vs, h1, many ds 0 vs (by simpa only [tops] using hc) h2⟩
      | _ => exact one _ 0 y (by simpa only [tops, cleanL, Bool.and_true] using hc) (by simpa only [impV] using hr)
    · intro j b n he
      exact h.range _ _ _ he
    · intro j l he
      exact (h.key _ _ he).2.2
    · intro j j' b n n' he he'
      have := h.inj _ _ _ _ _ he he'
      simpa using this
    · intro j c' hj
      obtain ⟨l, xs, g1, g2, g3⟩ := h.mem j c' hj
      refine ⟨l, xs, g1, .inl ⟨Rep.clean hle hold _ _ ?_ g2, g3⟩⟩
      unfold impC at hj
      split at hj
      · rename_i d hd
        have := cleanL_get hc hd
        cases d <;> first | (simp only [rowC, reduceCtorEq] at hj; done) | (simp only [rowC, Option.some.injEq] at hj; subst hj; simp only [V.clean, Bool.and_eq_true] at this; exact this.2)
      · simp at hj

/-- A new block that holds a content at its head (and more behind it). -/
theorem eff_new {o : Oper} {s : St} {a : Act} (ctx : Ctx P T w base loc s a) (hd : ∀ i, o.dst = some i → i < lentKey) {K : Eff → Prop} {dm : Id → D} {cd : D} {xs : List Value} {e : TypeId}
    (h : newK s o.dst dm cd K) (hc : Rep w base loc cd (.agg ⟨xs⟩)) (more : List Value) {y : Value}
    (hm : ∀ i (loc' : Loc), loc' (i, s.c i, 0) = some (some w.heap.size, xs.length) → Rep (w.alloc (.cells ⟨xs ++ more⟩ e (0, 0))) base loc' (dm (i, s.c i, 0)) y) :
    ∃ ef, K ef ∧ EffRel base s.c o.dst w loc (w.alloc (.cells ⟨xs ++ more⟩ e (0, 0))) y ef := by
  unfold newK at h
  split at h
  · rename_i i hi
    refine ⟨_, h, ?_⟩
    simp only [EffRel]
    refine ⟨below_new _ _, i, _, hi, new_rel more hc ctx.range ?_ ?_⟩
    · intro id l hl hk
      have := ctx.cnt id l hl (by rw [hk]; exact hd i hi)
      rw [hk] at this
      exact this
    · exact hm i _ (by simp [locR])
  · exact h.elim

/-- A new object that is no cells. -/
theorem eff_obj {o : Oper} {s : St} {a : Act} (ctx : Ctx P T w base loc s a) (hd : ∀ i, o.dst = some i → i < lentKey) {K : Eff → Prop} {dm : Id → D} {ob : Ob} {x : Obj}
    (h : newK s o.dst dm (.obj ob) K) (ho : ∀ loc', (∀ id l, loc id = some l → loc' id = some l) → ORep (w.alloc x) loc' ob w.heap.size) {y : Value}
    (hm : ∀ i (loc' : Loc), loc' (i, s.c i, 0) = some (some w.heap.size, 0) → Rep (w.alloc x) base loc' (dm (i, s.c i, 0)) y) :
    ∃ ef, K ef ∧ EffRel base s.c o.dst w loc (w.alloc x) y ef := by
  unfold newK at h
  split at h
  · rename_i i hi
    refine ⟨_, h, ?_⟩
    simp only [EffRel]
    refine ⟨below_new _ _, i, _, hi, new_obj ctx.range ?_ ho ?_⟩
    · intro id l hl hk
      have := ctx.cnt id l hl (by rw [hk]; exact hd i hi)
      rw [hk] at this
      exact this
    · exact hm i
  · exact h.elim

end
end Go.V
