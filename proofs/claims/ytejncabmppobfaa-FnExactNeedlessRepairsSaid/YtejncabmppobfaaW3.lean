import Derived.Test.YtejncabmppobfaaW2
set_option linter.unusedVariables false
set_option linter.unusedSimpArgs false
/- The abstract states are sound, sixth part: an operation that writes to no cell that was there comes to what the abstract state says. -/
set_option linter.unusedVariables false
set_option linter.unusedSimpArgs false
set_option linter.unusedSectionVars false
namespace Go.V
variable [Globs]

section
variable {P : Program} {T : Types} {w : World} {base : Nat} {loc : Loc} {s : St} {a : Act} {o : Oper} {K : Eff → Prop}

abbrev Goal (P : Program) (w : World) (base : Nat) (loc : Loc) (s : St) (a : Act) (o : Oper) (K : Eff → Prop) : Prop :=
  Done P o a w fun y w' => ∃ e, K e ∧ EffRel base s.c o.dst w loc w' y e

theorem goal_val {S : Sem Value} (hx : execOp a.eval o = (do pure (.value (← S)))) (h : ∃ d z, K (.val d) ∧ S.run P w = .ok z w ∧ Rep w base loc d z) : Goal P w base loc s a o K := by
  obtain ⟨d, z, h1, h2, h3⟩ := h
  exact .inl ⟨z, w, by simp [hx, h2], .val d, h1, RowKit.Below.refl _ _, h3⟩

theorem goal_move {x : Operand} (ctx : Ctx P T w base loc s a) (hx : execOp a.eval o = pure (.value (a.eval x))) (h : force (s.ev x) fun d => K (.val d)) : Goal P w base loc s a o K := by
  rw [force_eq] at h
  exact .inl ⟨_, w, by simp [hx], _, h, RowKit.Below.refl _ _, ctx.ev x⟩

theorem args_rep (hm : MemOk w base loc s.m) (B : Nat) {ds ds' : List D} {vs : List Value} (h : mapO (deep false [] s.m depth) ds = some ds') (hr : RepL w base loc ds vs) : RepL w B noLoc ds' vs :=
  mapO_rep (fun d d' y => deep_arg hm B depth d d' y) h hr

theorem evs_rep (hev : ∀ x, Rep w base loc (s.ev x) (a.eval x)) : ∀ (l : List Operand), RepL w base loc (l.map s.ev) (l.map a.eval)
  | [] => by simp [RepL]
  | x :: l => by simp only [List.map_cons, RepL]; exact ⟨_, _, rfl, hev x, evs_rep hev l⟩

theorem goal_call {f : Operand} {args : Array Operand} {ts : Array TypeId} (ctx : Ctx P T w base loc s a) (ho : o.op = .call { callee := .value f, args, argTypes := ts })
    (h : callK P s (s.ev f) (args.toList.map s.ev) o.dst K) : Goal P w base loc s a o K := by
  unfold callK at h
  split at h
  · rename_i g first caps hf
    obtain ⟨dargs, res, h1, hS, h2⟩ := h
    have hev := ctx.ev f
    rw [hf] at hev
    simp only [Rep] at hev
    obtain ⟨fa, cb, hval, hfa, hcb⟩ := hev
    have hargs : RepL w w.heap.size noLoc dargs (fa ++ (args.toList.map a.eval ++ cb)) :=
      args_rep ctx.mem _ h1 (hfa.append ((evs_rep ctx.ev _).append hcb))
    have e : (⟨fa⟩ ++ (args.map a.eval ++ ⟨cb⟩) : Array Value) = ⟨fa ++ (args.toList.map a.eval ++ cb)⟩ := by
      apply Array.ext'; simp
    obtain ⟨⟨fn, c, hfn, hbody, hname⟩, hsat⟩ := hS
    refine .inr (.inr ⟨g, ⟨fa ++ (args.toList.map a.eval ++ cb)⟩, w, ?_, ?_⟩)
    · have hn' : ¬ fn.name = "runtime.NumGoroutine" := by simpa using hname
      simp [execOp, ho, resolve, hval, Deferred.ofValue, invoke, callFunc, hfn, hn', hbody, e]
    · refine (hsat w _ ctx.glob.no hargs).mono ?_
      rintro e w' ⟨y, locr, rfl, hb, hres⟩
      refine ⟨y, rfl, ?_⟩
      cases hd : o.dst with
      | some i =>
        rw [hd] at h2
        exact ⟨_, h2, eff_of_res ctx.le ctx.range hb hres⟩
      | none =>
        rw [hd] at h2
        exact ⟨.val .junk, h2, hb, by simp [Rep]⟩
  · exact h.elim

theorem map_two {α β : Type} {f : α → β} {l : List α} {x y : β} (h : l.map f = [x, y]) : ∃ a b, l = [a, b] ∧ f a = x ∧ f b = y := by
  match l, h with
  | [], h => simp at h
  | [a], h => simp at h
  | [a, b], h => simp at h; exact ⟨a, b, rfl, h.1, h.2⟩
  | a :: b :: c :: r, h => simp at h

theorem goal_builtin {b : Builtin} {args : Array Operand} {ts : Array TypeId} (ctx : Ctx P T w base loc s a) (ho : o.op = .call { callee := .builtin b, args, argTypes := ts })
    (h : builtinK T b ts (args.toList.map s.ev) fun d => K (.val d)) : Goal P w base loc s a o K := by
  have hex : ∀ z : Value, (∀ (tys : Array TypeId) (ty : TypeId) (cs : Array Bool), (builtin b ts ty cs (args.map a.eval)).run P w = .ok (.value z) w) → (execOp a.eval o).run P w = .ok (.value z) w := by
    intro z hz
    simp [execOp, ho, resolve, invoke, hz #[]]
  unfold builtinK at h
  split at h
  · rename_i t r x hts hargs
    have hts' : ts[0]? = some t := by rw [← Array.getElem?_toList, hts]; rfl
    obtain ⟨x0, hx0, rfl⟩ : ∃ x0, args.toList = [x0] ∧ s.ev x0 = x := by
      match hl : args.toList, hargs with
      | [x0], h => exact ⟨x0, rfl, by simpa using h⟩
    have hv := ctx.ev x0
    have ha : (args.map a.eval)[0]? = some (a.eval x0) := by rw [← Array.getElem?_toList, Array.toList_map, hx0]; rfl
    split at h
    · rename_i sz bs zr b' hti hb'
      have hu := (ctx.types t _ hti).und
      simp only [UOk] at hu
      rw [hb'] at hv
      simp only [Rep] at hv
      refine .inl ⟨.int .i64 b'.size, w, hex _ fun _ _ _ => ?_, _, h, RowKit.Below.refl _ _, by simp [Rep, Flat]⟩
      simp [builtin, Builtin.len_, hts', ha, hv.1, run_under hu, goInt]
    · rename_i n e sz bs zr hti
      have hu := (ctx.types t _ hti).und
      simp only [UOk] at hu
      refine .inl ⟨.int .i64 n, w, hex _ fun _ _ _ => ?_, _, h, RowKit.Below.refl _ _, by simp [Rep, Flat]⟩
      simp [builtin, Builtin.len_, hts', ha, run_under hu, goInt]
    · rename_i e sz bs zr hti
      have hu := (ctx.types t _ hti).und
      simp only [UOk] at hu
      split at h
      · rename_i n hn
        obtain ⟨aa, cap, hy⟩ : ∃ aa cap, a.eval x0 = .slice aa n cap := by
          revert hv hn
          cases s.ev x0 with
          | slc f sz' id off len => intro hv hn; simp only [lenD, Option.some.injEq] at hn; subst hn; simp only [Rep] at hv; obtain ⟨aa, cap, _, _, hy, _⟩ := hv; exact ⟨aa, cap, hy⟩
          | row m sz' c len => intro hv hn; simp only [lenD, Option.some.injEq] at hn; subst hn; simp only [Rep] at hv; obtain ⟨aa, cap, _, hy, _⟩ := hv; exact ⟨aa, cap, hy⟩
          | v x' =>
            intro hv hn
            unfold lenD at hn
            split at hn
            · rename_i hh; simp at hh
            · rename_i hh; simp at hh
            · rename_i hh
              simp only [D.v.injEq] at hh
              subst hh
              simp only [Option.some.injEq] at hn
              subst hn
              simp only [Rep] at hv
              exact ⟨none, 0, hv.1⟩
            · simp at hn
          | _ => intro hv hn; simp [lenD] at hn
        refine .inl ⟨.int .i64 n, w, hex _ fun _ _ _ => ?_, _, h, RowKit.Below.refl _ _, by simp [Rep, Flat]⟩
        simp [builtin, Builtin.len_, hts', ha, hy, run_under hu, goInt]
      · exact h.elim
    · exact h.elim
  all_goals first
    | exact h.elim
    | (rename_i k x k' y hargs
       obtain ⟨x0, y0, hx0, hx, hy⟩ := map_two hargs
       have hvx := ctx.ev x0
       have hvy := ctx.ev y0
       rw [hx] at hvx
       rw [hy] at hvy
       simp only [Rep] at hvx hvy
       refine .inl ⟨_, w, hex _ fun _ _ _ => ?_, _, h, RowKit.Below.refl _ _, by simp only [Rep]; exact ⟨rfl, rfl⟩⟩
       simp [builtin, Builtin.max_, Builtin.min_, Builtin.max2, Builtin.min2, hx0, hvx.1, hvy.1])

theorem goal_conv {x : Operand} {t u : TypeId} (ctx : Ctx P T w base loc s a) (ho : o.op = .convert t u x) (h : convK T s t u (s.ev x) fun d => K (.val d)) : Goal P w base loc s a o K := by
  have hex : ∀ z w', (convert t u (a.eval x)).run P w = .ok z w' → (execOp a.eval o).run P w = .ok (.value z) w' := by
    intro z w' hz
    simp [execOp, ho, hz]
  have hv := ctx.ev x
  unfold convK at h
  split at h
  · rename_i i k sz bs zr k' n ht hu hx
    rw [hx] at hv
    simp only [Rep] at hv
    have h1 := (ctx.types u _ hu).und
    simp only [UOk] at h1
    obtain ⟨d, h2⟩ : ∃ d, P.underlying t = some d := by
      have := (ctx.types t _ ht).und
      cases hh : i.u <;> rw [hh] at this <;> simp only [UOk] at this <;> first | exact ⟨_, this⟩ | (obtain ⟨e, this⟩ := this; exact ⟨_, this⟩) | (obtain ⟨e, this, _⟩ := this; exact ⟨_, this⟩) | (obtain ⟨e, f, g, this⟩ := this; exact ⟨_, this⟩)
    exact .inl ⟨_, w, hex _ _ (by simp [convert, run_under h1, run_under h2, hv.1, Conv.intToInt]; rfl), _, h, RowKit.Below.refl _ _, by simp [Rep, Flat]⟩
  · rename_i i sz bs zr b ht hu hx
    rw [hx] at hv
    simp only [Rep] at hv
    have h1 := (ctx.types u _ hu).und
    simp only [UOk] at h1
    obtain ⟨d, h2⟩ : ∃ d, P.underlying t = some d := by
      have := (ctx.types t _ ht).und
      cases hh : i.u <;> rw [hh] at this <;> simp only [UOk] at this <;> first | exact ⟨_, this⟩ | (obtain ⟨e, this⟩ := this; exact ⟨_, this⟩) | (obtain ⟨e, this, _⟩ := this; exact ⟨_, this⟩) | (obtain ⟨e, f, g, this⟩ := this; exact ⟨_, this⟩)
    exact .inl ⟨.string b, w, hex _ _ (by cases d <;> simp [convert, run_under h1, run_under h2, hv.1]), _, h, RowKit.Below.refl _ _, by simp [Rep, Flat]⟩
  · rename_i i sz bs zr k n ht hu hx
    rw [hx] at hv
    simp only [Rep] at hv
    have h1 := (ctx.types u _ hu).und
    simp only [UOk] at h1
    obtain ⟨d, h2⟩ : ∃ d, P.underlying t = some d := by
      have := (ctx.types t _ ht).und
      cases hh : i.u <;> rw [hh] at this <;> simp only [UOk] at this <;> first | exact ⟨_, this⟩ | (obtain ⟨e, this⟩ := this; exact ⟨_, this⟩) | (obtain ⟨e, this, _⟩ := this; exact ⟨_, this⟩) | (obtain ⟨e, f, g, this⟩ := this; exact ⟨_, this⟩)
    exact .inl ⟨.string (Utf8.encode n), w, hex _ _ (by cases d <;> simp [convert, run_under h1, run_under h2, hv.1, Conv.intToString]), _, h, RowKit.Below.refl _ _, by simp [Rep, Flat]⟩
  · rename_i i e sz bs zr b ht hu hx
    rw [hx] at hv
    simp only [Rep] at hv
    have h1 := (ctx.types u _ hu).und
    simp only [UOk] at h1
    obtain ⟨d, h2⟩ : ∃ d, P.underlying t = some d := by
      have := (ctx.types t _ ht).und
      cases hh : i.u <;> rw [hh] at this <;> simp only [UOk] at this <;> first | exact ⟨_, this⟩ | (obtain ⟨e, this⟩ := this; exact ⟨_, this⟩) | (obtain ⟨e, this, _⟩ := this; exact ⟨_, this⟩) | (obtain ⟨e, f, g, this⟩ := this; exact ⟨_, this⟩)
    split at h
    · rename_i sz' bs' zr' he
      have h3 := (ctx.types e _ he).und
      simp only [UOk] at h3
      have hr := Lib.run_convert_string_bytes (P := P) w t u e b h2 h1 h3
      rw [← hv.1] at hr
      have hbel : RowKit.Below w.heap.size w (Lib.bytesWorld w e b) := by
        refine ⟨rfl, rfl, rfl, by rw [Lib.bytesWorld_size]; omega, fun k hk => Lib.bytesWorld_at_old w e b k hk⟩
      refine .inl ⟨_, _, hex _ _ hr, _, h, hbel, ?_⟩
      simp only [Rep]
      have hlen : (byteVals b).length = b.size := by simp [byteVals]
      refine ⟨_, _, byteVals b, rfl, ?_, ⟨rfl, ?_⟩, by rw [hlen, Nat.mul_one], ?_, (by simp)⟩
      · show b.size ≤ grownCap w b.size 0 e
        unfold grownCap; simp [Question.cut]
      · simp only [Flat, List.all_eq_true, byteVals, List.mem_map]
        rintro x ⟨y, _, rfl⟩
        rfl
      · right
        refine ⟨w.heap.size, 0, rfl, ⟨_, _, _, Lib.bytesWorld_at_new w e b, ?_, ?_⟩, ?_, (by simp)⟩
        · rw [hlen]; simp [Lib.bytesCells]
        · rw [hlen]
          simp [Lib.bytesCells, byteVals]
        · intro id n he'
          have := ctx.range _ _ _ he'
          omega
    · exact h.elim
  · rename_i e sz bs zr sz' bs' zr' ht hu hx1 hx2
    have h1 := (ctx.types u _ hu).und
    have h2 := (ctx.types t _ ht).und
    simp only [UOk] at h1 h2
    split at h
    · rename_i k sz'' bs'' zr'' m arr n he hc hl
      have h3 := (ctx.types e _ he).und
      simp only [UOk] at h3
      obtain ⟨b, ⟨rfl, rfl, hb, hsz⟩, hk⟩ := h
      obtain ⟨aa, cap, xs, hy, hle, hr, hlen, hat⟩ := contOf_sound ctx.mem hv hc hl (.inl hsz)
      simp only [Rep, Value.agg.injEq] at hr
      obtain ⟨hxs, _⟩ := hr
      have hxs : xs = byteVals b := by rw [← hb, ← hxs]
      refine .inl ⟨.string b, w, hex _ _ ?_, _, hk, RowKit.Below.refl _ _, by simp [Rep, Flat]⟩
      rw [hy, run_convert_bytes_string w t u e aa _ cap h2 h3 h1]
      rcases hat with hz | ⟨bb, oo, rfl, hat⟩
      · have hl0 : xs.length = b.size := by rw [hxs]; simp [byteVals]
        have hb0 : b = ByteArray.empty := by
          have : b.data.toList = [] := List.eq_nil_of_length_eq_zero (by rw [Array.length_toList]; show b.size = 0; omega)
          obtain ⟨⟨l⟩⟩ := b
          simp at this
          subst this
          rfl
        subst hb0
        cases aa with
        | none => rfl
        | some q =>
          have hload : (loadCells q (ByteArray.empty.size)).run P w = .ok (([] : List Int).map (Value.int .u8)).toArray w := by
            show (loadCells q 0).run P w = _
            simp [loadCells, loadCellsFrom]
          have := run_bytesToString (P := P) w q _ cap [] hload
          simpa using this
      · have hload := run_loadCells_at (P := P) hat
        have hl0 : xs.length = b.size := by rw [hxs]; simp [byteVals]
        rw [hl0] at hload
        have := run_bytesToString (P := P) w ⟨bb, oo, none⟩ b.size cap (b.data.toList.map fun b => ((b.toNat : Nat) : Int)) (by rw [hload, hxs]; simp [byteVals, Function.comp_def])
        rw [this, bytes_back]
    · exact h.elim
  · exact h.elim

theorem goal_alloc {t : TypeId} (ctx : Ctx P T w base loc s a) (hd : ∀ i, o.dst = some i → i < lentKey) (ho : o.op = .alloc t) {i : TI} (hi : T t = some i)
    (h : newK s o.dst (fun id => .ptr id 0) (cont (.v i.zero)) K) : Goal P w base loc s a o K := by
  have ht := ctx.types t i hi
  obtain ⟨xs, h1, h2⟩ := cont_rep (w := w) (base := base) (loc := loc) (d := .v i.zero) (y := i.zero) (by simp only [Rep, true_and]; exact ht.flat) (by simp) (by simp)
  obtain ⟨ef, g1, g2⟩ := eff_new (e := t) (y := .pointer (some ⟨w.heap.size, 0, none⟩)) ctx hd h h2 [] (fun j loc' hl => by simp only [Rep]; exact ⟨_, _, hl, rfl⟩)
  refine .inl ⟨_, _, ?_, ef, g1, g2⟩
  simp [execOp, ho, Instr.alloc, run_zero ctx.types hi, newVar, newRow, h1]

theorem goal_box {t : TypeId} {x : Operand} (ctx : Ctx P T w base loc s a) (hd : ∀ i, o.dst = some i → i < lentKey) (ho : o.op = .box t x)
    (h : force (s.ev x) fun d => (match d with | .junk => False | .tup _ => False | d => newK s o.dst (fun id => .ptr id 0) (cont d) K)) : Goal P w base loc s a o K := by
  rw [force_eq] at h
  have hv := ctx.ev x
  have main : s.ev x ≠ .junk → (∀ ds, s.ev x ≠ .tup ds) → newK s o.dst (fun id => .ptr id 0) (cont (s.ev x)) K → Goal P w base loc s a o K := by
    intro n1 n2 h
    obtain ⟨xs, h1, h2⟩ := cont_rep hv n1 n2
    obtain ⟨ef, g1, g2⟩ := eff_new (e := t) (y := .pointer (some ⟨w.heap.size, 0, none⟩)) ctx hd h h2 [] (fun j loc' hl => by simp only [Rep]; exact ⟨_, _, hl, rfl⟩)
    refine .inl ⟨_, _, ?_, ef, g1, g2⟩
    simp [execOp, ho, Instr.box, newVar, newRow, h1]
  cases hx : s.ev x with
  | junk => rw [hx] at h; exact h.elim
  | tup ds => rw [hx] at h; exact h.elim
  | _ => rw [hx] at h; exact main (by simp [hx]) (by simp [hx]) (by rw [hx]; exact h)

theorem mapM_places (hT : TOk P T) : ∀ (fs : List Field) (pl : List (Nat × Nat)), mapO (fun p : Nat × TypeId => match T p.2 with | some ti => some (p.1, ti.size) | none => none) (fs.map fun f => (f.offset, f.type)) = some pl →
    (fs.mapM fun f => do pure (f.offset, ← sizeOf f.type) : Sem (List (Nat × Nat))).run P w = .ok pl w
  | [], pl, h => by simp only [List.map_nil, mapO, Option.some.injEq] at h; subst h; simp
  | f :: fs, pl, h => by
    simp only [List.map_cons, mapO] at h
    split at h
    · rename_i p hp
      split at h
      · rename_i ps hps
        simp only [Option.some.injEq] at h
        subst h
        split at hp
        · rename_i ti hti
          simp only [Option.some.injEq] at hp
          subst hp
          have ih := mapM_places hT fs ps hps
          simp only [bind_pure_comp] at ih
          simp [List.mapM_cons, run_size hT hti, ih]
        · simp at hp
      · simp at h
    · simp at h

theorem zero_rep (hT : TOk P T) {t : TypeId} {i : TI} (hi : T t = some i) {zs : List D} (hz : asList (cont (.v i.zero)) = some zs) :
    RepL w base loc zs i.zero.cells.toList ∧ i.zero.cells.toList.all Value.oneCell' = true ∧ zs.length = i.size := by
  have ht := hT t i hi
  obtain ⟨xs, h1, h2⟩ := cont_rep (w := w) (base := base) (loc := loc) (d := .v i.zero) (y := i.zero) (by simp only [Rep, true_and]; exact ht.flat) (by simp) (by simp)
  obtain ⟨h3, h4⟩ := h2.asList hz
  rw [h1]
  refine ⟨h3, h4, ?_⟩
  rw [h3.length, ← ht.size, h1]
  rfl

theorem goal_build {t : TypeId} {parts : Array (Nat × Operand)} (ctx : Ctx P T w base loc s a) (ho : o.op = .build t parts) (h : quietK P T o s K) : Goal P w base loc s a o K := by
  simp only [quietK, ho] at h
  have hex : ∀ z, (Instr.build t (parts.map fun (i, x) => (i, a.eval x))).run P w = .ok z w → (execOp a.eval o).run P w = .ok (.value z) w := by
    intro z hz
    simp only [execOp, ho, Sem.run_bind]
    rw [hz]
    simp
  have hparts : (parts.map fun (p : Nat × Operand) => (p.1, a.eval p.2)).toList = parts.toList.map fun p => (p.1, a.eval p.2) := by simp
  split at h
  · rename_i fs sz bs z hi
    obtain ⟨fields, hu, hfs⟩ := (ctx.types t _ hi).und
    split at h
    · rename_i zs hzs
      split at h
      · rename_i pl hpl
        split at h
        · rename_i ds hds
          obtain ⟨h1, h2, h3⟩ := zero_rep (w := w) (base := base) (loc := loc) ctx.types hi hzs
          obtain ⟨us, g1, g2, g3, g4⟩ := fill_sound ctx.ev parts.toList zs _ ds h1 h2 hds
          refine .inl ⟨.agg ⟨us⟩, w, hex _ ?_, _, h, RowKit.Below.refl _ _, Rep.mkAgg g2 g3⟩
          have hm := mapM_places (P := P) (w := w) ctx.types fields.toList pl (by rw [hfs]; exact hpl)
          have hm' : (fields.mapM fun f => do pure (f.offset, ← sizeOf f.type) : Sem (Array (Nat × Nat))).run P w = .ok ⟨pl⟩ w := by
            rw [Array.mapM_eq_mapM_toList]
            simp only [Sem.run_map]
            rw [hm]
            rfl
          have hpl2 : (fun i : Nat => (⟨pl⟩ : Array (Nat × Nat))[i]?) = fun i : Nat => pl[i]? := by funext i; simp
          simp only [Instr.build, Sem.run_bind, run_zero ctx.types hi, Result.andThen_ok, run_under hu, hm', hpl2, hparts]
          have hc : (z.cells : Array Value) = ⟨z.cells.toList⟩ := rfl
          rw [hc, g1]
          rfl
        · exact h.elim
      · exact h.elim
    · exact h.elim
  · rename_i n e sz bs z hi
    have hu := (ctx.types t _ hi).und
    simp only [UOk] at hu
    split at h
    · rename_i ti zs hti hzs
      split at h
      · rename_i ds hds
        obtain ⟨h1, h2, h3⟩ := zero_rep (w := w) (base := base) (loc := loc) ctx.types hi hzs
        obtain ⟨us, g1, g2, g3, g4⟩ := fill_sound ctx.ev parts.toList zs _ ds h1 h2 hds
        refine .inl ⟨.agg ⟨us⟩, w, hex _ ?_, _, h, RowKit.Below.refl _ _, Rep.mkAgg g2 g3⟩
        simp only [Instr.build, Sem.run_bind, run_zero ctx.types hi, Result.andThen_ok, run_under hu, run_size ctx.types hti, hparts]
        have hc : (z.cells : Array Value) = ⟨z.cells.toList⟩ := rfl
        rw [hc, g1]
        rfl
      · exact h.elim
    · exact h.elim
  · exact h.elim

theorem goal_buildSlice {t : TypeId} {len : Nat} {parts : Array (Nat × Operand)} (ctx : Ctx P T w base loc s a) (hd : ∀ i, o.dst = some i → i < lentKey) (ho : o.op = .buildSlice t len parts) (h : quietK P T o s K) : Goal P w base loc s a o K := by
  simp only [quietK, ho] at h
  have hex : ∀ z w', (Instr.buildSlice t len (parts.map fun (i, x) => (i, a.eval x))).run P w = .ok z w' → (execOp a.eval o).run P w = .ok (.value z) w' := by
    intro z w' hz
    simp only [execOp, ho, Sem.run_bind]
    rw [hz]
    simp
  have hparts : (parts.map fun (p : Nat × Operand) => (p.1, a.eval p.2)).toList = parts.toList.map fun p => (p.1, a.eval p.2) := by simp
  split at h
  · rename_i e sz bs z hi
    have hu := (ctx.types t _ hi).und
    simp only [UOk] at hu
    split at h
    · rename_i ti hti
      split at h
      · rename_i zs hzs
        split at h
        · rename_i ds hds
          rw [asrt_iff] at h
          obtain ⟨hlim, h⟩ := h
          have hlim := Nat.le_of_ble_eq_true hlim
          obtain ⟨h1, h2, h3⟩ := zero_rep (w := w) (base := base) (loc := loc) ctx.types hti hzs
          obtain ⟨us, g1, g2, g3, g4⟩ := fill_sound ctx.ev parts.toList _ _ ds (h1.rep len) (all_rep len h2) hds
          have hsz : ti.zero.cells.size = ti.size := (ctx.types e _ hti).size
          have hul : us.length = len * ti.size := by rw [g4, rep_length, Array.length_toList, hsz]
          obtain ⟨ef, k1, k2⟩ := eff_new (e := e) (y := .slice (some ⟨w.heap.size, 0, none⟩) len len) ctx hd h (Rep.mkAgg g2 g3) [] (fun j loc' hl => by
            rw [Rep]
            refine ⟨_, _, _, _, rfl, Nat.le_refl _, hl, by omega, fun _ => ⟨rfl, hul.symm⟩, 0, rfl, fun _ => rfl, fun _ => ⟨rfl, _, _, _, heap_new _ _, ?_⟩⟩
            simp; omega)
          refine .inl ⟨_, _, hex _ _ ?_, ef, k1, k2⟩
          have hlim' : ¬ (len * ti.size > 2 ^ 24) := by simpa using hlim
          simp only [Instr.buildSlice, Sem.run_bind, run_under hu, Result.andThen_ok, run_size ctx.types hti, if_neg hlim', Sem.run_pure, hparts, List.append_nil]
          by_cases hz : len * ti.size = 0
          · have hr : (Array.map (fun x => (#[] : Array Value)[x % (#[] : Array Value).size]!) (Array.range (len * ti.size))) = ⟨rep len ti.zero.cells.toList⟩ := by
              apply Array.ext'
              have : (rep len ti.zero.cells.toList).length = 0 := by rw [rep_length, Array.length_toList, hsz, hz]
              rw [List.eq_nil_of_length_eq_zero this]
              simp [hz]
            rw [if_pos hz]
            simp only [Sem.run_bind, Sem.run_pure, Result.andThen_ok]
            rw [hr, g1]
            simp [newRow]
          · have hr : (Array.map (fun x => ti.zero.cells[x % ti.zero.cells.size]!) (Array.range (len * ti.size))) = ⟨rep len ti.zero.cells.toList⟩ := by
              apply Array.ext'
              rw [← hsz]
              exact zeros_rep _ _
            rw [if_neg hz]
            simp only [Sem.run_bind, run_zero ctx.types hti, Sem.run_pure, Result.andThen_ok]
            rw [hr, g1]
            simp [newRow]
        · exact h.elim
      · exact h.elim
    · exact h.elim
  · exact h.elim

theorem goal_make {t : TypeId} {x y : Operand} (ctx : Ctx P T w base loc s a) (hd : ∀ i, o.dst = some i → i < lentKey) (ho : o.op = .makeSlice t x y) (h : quietK P T o s K) : Goal P w base loc s a o K := by
  simp only [quietK, ho] at h
  have hex : ∀ z w', (Instr.makeSlice t (a.eval x) (a.eval y)).run P w = .ok z w' → (execOp a.eval o).run P w = .ok (.value z) w' := by
    intro z w' hz
    simp [execOp, ho, hz]
  split at h
  · rename_i e sz bs z k n k' m hi hx hy
    have hu := (ctx.types t _ hi).und
    simp only [UOk] at hu
    have hvx := ctx.ev x
    have hvy := ctx.ev y
    rw [hx] at hvx
    rw [hy] at hvy
    simp only [Rep] at hvx hvy
    split at h
    · rename_i ti hti
      rw [asrt_iff] at h
      obtain ⟨h5, ⟨h0, h1, h2, h3⟩, h⟩ := h
      have ht := ctx.types e ti hti
      have h4 : ti.zero.cells.toList.length = ti.size := by rw [Array.length_toList]; exact ht.size
      obtain ⟨tinfo, i1, i2, i3, i4⟩ := ht.info
      have hone : ti.zero.cells.toList.all Value.oneCell' = true := by
        have := ht.flat
        cases hz : ti.zero with
        | agg arr => rw [hz] at this; simpa [Flat, Value.cells] using this
        | tuple arr => rw [hz] at this; simp [Flat] at this
        | _ => simp [Value.cells, Value.oneCell']
      have hc : Rep w base loc (.v (.agg ⟨rep n.toNat ti.zero.cells.toList⟩)) (.agg ⟨rep n.toNat ti.zero.cells.toList⟩) := by
        simp only [Rep, Flat, true_and]; exact all_rep _ hone
      have hl : (rep n.toNat ti.zero.cells.toList).length = n.toNat * ti.size := by rw [rep_length, h4]
      obtain ⟨ef, k1, k2⟩ := eff_new (e := e) (y := .slice (some ⟨w.heap.size, 0, none⟩) n.toNat m.toNat) ctx hd h hc (rep (m.toNat - n.toNat) ti.zero.cells.toList) (fun j loc' hl' => by
        rw [Rep]
        refine ⟨_, _, _, _, rfl, by omega, hl', by omega, fun _ => ⟨rfl, hl.symm⟩, 0, rfl, fun _ => rfl, fun _ => ⟨rfl, _, _, _, heap_new _ _, ?_⟩⟩
        simp only [List.size_toArray, ← rep_add, rep_length, h4]
        have : n.toNat + (m.toNat - n.toNat) = m.toNat := by omega
        rw [this]
        exact Nat.le_refl _)
      refine .inl ⟨_, _, hex _ _ ?_, ef, k1, k2⟩
      have hb : (tinfo.bytes : Int) * m ≤ 281474976710656 := by rw [i3, Int.mul_comm]; omega
      have := run_make (P := P) w t e tinfo ti.zero hu i1 i4 k k' n m h0 h1 hb (by omega)
      rw [hvx.1, hvy.1, this]
      congr 3
      apply Array.ext'
      rw [i2, ← rep_add]
      have hmn : n.toNat + (m.toNat - n.toNat) = m.toNat := by omega
      rw [hmn, ← ht.size]
      exact zeros_rep _ _
    · exact h.elim
  · exact h.elim

theorem run_getObj {r : Nat} {o : Obj} (hb : w.heap[r]? = some o) (hc : isCells o = false := by rfl) : (getObj r).run P w = .ok o w := by
  cases o <;> first | (cases hc; done) | simp [getObj, Sem.run, hb]
theorem sameKey_eq {pk : Bool} {k k' : Int × Int} (h : pk = false → k.2 = 0) (h' : pk = false → k'.2 = 0) : sameKey (keyV pk k) (keyV pk k') = keyEq k k' := by
  cases pk
  · simp [keyV, sameKey, keyEq, h rfl, h' rfl]
  · simp [keyV, sameKey, keyEq]
theorem findE_ents {pk : Bool} {key : Int × Int} (hk : pk = false → key.2 = 0) : ∀ (kvs : List ((Int × Int) × Value)) (i j : Nat), (∀ p ∈ kvs, (pk = false → p.1.2 = 0) ∧ Flat p.2 = true) →
    findE (keyV pk key) (entsF pk i kvs) j = (findK key kvs).map fun v => (j + idxK key kvs, v)
  | [], i, j, _ => rfl
  | p :: r, i, j, h => by
    have hp := h p (by simp)
    simp only [entsF, findE, findK, idxK, sameKey_eq hk hp.1]
    cases keyEq key p.1 <;> simp only [cond_true, cond_false]
    · rw [findE_ents hk r (i + 1) (j + 1) fun q hq => h q (by simp [hq])]
      congr 1; funext v; simp; omega
    · simp
theorem entsF_keys {pk : Bool} : ∀ (kvs : List ((Int × Int) × Value)) (i : Nat), ∀ e ∈ entsF pk i kvs, ∃ k', e.key = keyV pk k'
  | [], i, e, he => by simp [entsF] at he
  | p :: r, i, e, he => by
    simp only [entsF, List.mem_cons] at he
    rcases he with rfl | he
    · exact ⟨p.1, rfl⟩
    · exact entsF_keys r (i + 1) e he
theorem entsF_get {pk : Bool} : ∀ (kvs : List ((Int × Int) × Value)) (i j : Nat), (entsF pk i kvs)[j]? = (kvs[j]?).map fun p => ⟨keyV pk p.1, p.2, i + j⟩
  | [], i, j => by simp [entsF]
  | p :: r, i, 0 => by simp [entsF]
  | p :: r, i, j + 1 => by simp only [entsF, List.getElem?_cons_succ]; rw [entsF_get r (i + 1) j]; congr 1; funext q; congr 1; omega
theorem entsF_len {pk : Bool} : ∀ (kvs : List ((Int × Int) × Value)) (i : Nat), (entsF pk i kvs).length = kvs.length
  | [], i => rfl
  | p :: r, i => by simp only [entsF, List.length_cons]; rw [entsF_len r]
theorem findK_flat {key : Int × Int} {z : Value} (hz : Flat z = true) : ∀ (kvs : List ((Int × Int) × Value)), (∀ p ∈ kvs, Flat p.2 = true) → Flat ((findK key kvs).getD z) = true
  | [], _ => hz
  | p :: r, h => by
    simp only [findK]
    cases keyEq key p.1 <;> simp only [cond_true, cond_false]
    · exact findK_flat hz r fun q hq => h q (by simp [hq])
    · exact h p (by simp)
theorem keyK_get {pk : Bool} {d : D} {K : Int × Int → Prop} {y : Value} (h : keyK pk d K) (hy : Rep w base loc d y) : ∃ key, K key ∧ y = keyV pk key ∧ (pk = false → key.2 = 0) := by
  unfold keyK at h
  split at h
  · simp only [Rep] at hy; exact ⟨_, h, hy.1, by simp⟩
  · simp only [Rep] at hy; exact ⟨_, h, hy.1, fun _ => rfl⟩
  · exact h.elim
/-- A map that is told, as it lies in memory. -/
structure MapAt (P : Program) (w : World) (loc : Loc) (s : St) (t : TypeId) (vm vk : Value) (id : Id) (pk : Bool) (kvs : List ((Int × Int) × Value)) (ti : TI) (key : Int × Int) (b : Nat) (kt et : TypeId) : Prop where
  told : s.m id = some (.obj (.map pk kvs))
  at_ : ∃ n, loc id = some (some b, n)
  vm : vm = .map (some b)
  vk : vk = keyV pk key
  k0 : pk = false → key.2 = 0
  heap : w.heap[b]? = some (.map (ents pk kvs) kvs.length)
  ok : ∀ p ∈ kvs, (pk = false → p.1.2 = 0) ∧ Flat p.2 = true
  under : P.underlying t = some (.map kt et)
  check : ∀ (w : World) (b : Bool), (Instr.checkKey b 10000 kt (keyV pk key)).run P w = .ok () w
  find : ∀ w : World, (Instr.findKey kt (keyV pk key) (entsF pk 0 kvs)).run P w = .ok ((findK key kvs).map fun v => (idxK key kvs, v)) w
  zero : ∀ w : World, (zeroValue et).run P w = .ok ti.zero w
  zflat : Flat ti.zero = true
theorem mapK_get (hT : TOk P T) (hm : MemOk w base loc s.m) {t : TypeId} {m k : D} {ym yk : Value} {K : Id → Bool → List ((Int × Int) × Value) → TI → Int × Int → Prop} (h : mapK P T s t m k K) (hym : Rep w base loc m ym) (hyk : Rep w base loc k yk) :
    ∃ id pk kvs ti key b kt et, K id pk kvs ti key ∧ m = .mr id ∧ MapAt P w loc s t ym yk id pk kvs ti key b kt et := by
  unfold mapK at h
  split at h
  · rename_i kt e sz bs zr id hti
    split at h
    · rename_i pk kvs ti hc hte
      obtain ⟨⟨kt', et', h1, h2, h3⟩, hK⟩ := h
      have hu := (hT t _ hti).und
      simp only [UOk] at hu
      rw [hu] at h1
      cases h1
      obtain ⟨key, g1, g2, g3⟩ := keyK_get hK hyk
      obtain ⟨l, xs, q1, q2⟩ := hm id _ hc
      rcases q2 with ⟨q2, _⟩ | ⟨x, b, e1, rfl, rfl, q3⟩
      · simp [Rep] at q2
      · cases e1
        simp only [ORep] at q3
        simp only [Rep] at hym
        obtain ⟨b', n, r1, r2⟩ := hym
        rw [q1] at r1
        cases r1
        refine ⟨id, pk, kvs, ti, key, b, kt, e, g1, rfl, hc, ⟨_, q1⟩, r2, g2, g3, q3.1, q3.2, hu, fun w b => h2 w b key, fun w => ?_, fun w => run_zero hT hte, (hT _ _ hte).flat⟩
        rw [h3 w key _ (entsF_keys kvs 0), findE_ents g3 kvs 0 0 q3.2]
        simp
    · exact h.elim
  · exact h.elim
theorem goal_lookup {t : TypeId} {x y : Operand} {ok : Bool} (ctx : Ctx P T w base loc s a) (ho : o.op = .lookup t x y ok) (h : lookK P T s t (s.ev x) (s.ev y) ok fun d => K (.val d)) : Goal P w base loc s a o K := by
  unfold lookK at h
  obtain ⟨id, pk, kvs, ti, key, b, kt, et, hK, _, hA⟩ := mapK_get ctx.types ctx.mem h (ctx.ev x) (ctx.ev y)
  have hfl := findK_flat (key := key) hA.zflat kvs fun p hp => (hA.ok p hp).2
  refine goal_val (S := Instr.lookup t (a.eval x) (a.eval y) ok) (by simp [execOp, ho]) ?_
  cases ok
  · refine ⟨_, (findK key kvs).getD ti.zero, hK, ?_, by simp only [Rep, true_and]; exact hfl⟩
    have hf := hA.find w
    cases hfk : findK key kvs <;> rw [hfk] at hf <;>
      simp [Instr.lookup, run_under hA.under, hA.vm, hA.vk, run_getObj hA.heap, hA.check, ents, hf, hA.zero]
  · refine ⟨_, .tuple ⟨[(findK key kvs).getD ti.zero, .bool (findK key kvs).isSome]⟩, hK, ?_, by simp only [Rep, RepL]; exact ⟨_, rfl, _, _, rfl, ⟨rfl, hfl⟩, _, _, rfl, ⟨rfl, rfl⟩, rfl⟩⟩
    have hf := hA.find w
    cases hfk : findK key kvs <;> rw [hfk] at hf <;>
      simp [Instr.lookup, run_under hA.under, hA.vm, hA.vk, run_getObj hA.heap, hA.check, ents, hf, hA.zero]
theorem goal_entry {x : Operand} (ctx : Ctx P T w base loc s a) (ho : o.op = .entry x) (h : entryK s (s.ev x) fun d => K (.val d)) : Goal P w base loc s a o K := by
  have hv := ctx.ev x
  unfold entryK at h
  split at h
  · rename_i id hx
    rw [hx] at hv
    simp only [Rep] at hv
    obtain ⟨b, n, h1, hy⟩ := hv
    split at h
    · rename_i mid since seen last hc
      split at h
      · rename_i pk kvs hc2
        obtain ⟨hl, j, key, v, hj, hkv, hK⟩ := h
        obtain ⟨l, xs, q1, q2⟩ := ctx.mem id _ hc
        obtain ⟨l', xs', p1, p2⟩ := ctx.mem mid _ hc2
        rcases q2 with ⟨q2, _⟩ | ⟨x1, b1, e1, rfl, rfl, q3⟩
        · simp [Rep] at q2
        rcases p2 with ⟨p2, _⟩ | ⟨x2, b2, e2, rfl, rfl, p3⟩
        · simp [Rep] at p2
        cases e1
        cases e2
        rw [q1] at h1
        cases h1
        simp only [ORep] at q3 p3
        obtain ⟨mb, n', r1, r2, r3⟩ := q3
        rw [p1] at r1
        cases r1
        have hjl : j < kvs.length := (List.getElem?_eq_some_iff.1 hkv).1
        have hfind : (ents pk kvs).find? (fun e => e.born == j) = some ⟨keyV pk key, v, j⟩ := by
          have : ∀ (kvs : List ((Int × Int) × Value)) (i : Nat) (j : Nat) , kvs[j]? = some (key, v) → (entsF pk i kvs).find? (fun e => e.born == i + j) = some ⟨keyV pk key, v, i + j⟩ := by
            intro kvs
            induction kvs with
            | nil => intro i j h; simp at h
            | cons p r ih =>
              intro i j h
              cases j with
              | zero => simp at h; subst h; simp [entsF]
              | succ j =>
                have := ih (i + 1) j (by simpa using h)
                rw [show i + 1 + j = i + (j + 1) by omega] at this
                simp only [entsF]
                rw [List.find?_cons_of_neg (by simp)]
                exact this
          have := this kvs 0 j hkv
          rw [Nat.zero_add] at this
          simpa [ents] using this
        refine goal_val (S := Instr.entry (a.eval x)) (by simp [execOp, ho]) ⟨_, .tuple ⟨[keyV pk key, v]⟩, hK, ?_, ?_⟩
        · have hb : (⟨seen⟩ : Array Nat).back? = some j := by simpa [List.getLast?_eq_getElem?] using hj
          simp [Instr.entry, hy, run_getObj r2, hb, run_getObj p3.1, hl, hfind]
        · simp only [Rep, RepL]
          exact ⟨_, rfl, _, _, rfl, ⟨rfl, by cases pk <;> rfl⟩, _, _, rfl, ⟨rfl, (p3.2 _ (List.mem_of_getElem? hkv)).2⟩, rfl⟩
      · exact h.elim
    · exact h.elim
  · exact h.elim
/-- ALL OF THEM. -/
theorem quiet_sound (ctx : Ctx P T w base loc s a) (hd : ∀ i, o.dst = some i → i < lentKey) (h : quietK P T o s K) : Goal P w base loc s a o K := by
  have h' := h
  unfold quietK at h
  split at h
  · rename_i x ho; exact goal_move ctx (by simp [execOp, ho]) h
  · rename_i x ho; exact goal_move ctx (by simp [execOp, ho]) h
  · rename_i c x y ho
    have hv := ctx.ev c
    split at h
    · rename_i b hb
      rw [hb] at hv
      simp only [Rep] at hv
      cases b
      · exact goal_move ctx (x := y) (by simp [execOp, ho, hv.1, asBool]) h
      · exact goal_move ctx (x := x) (by simp [execOp, ho, hv.1, asBool]) h
    · exact h.elim
  · rename_i t ho
    split at h
    · rename_i i hi; exact goal_alloc ctx hd ho hi h
    · exact h.elim
  · rename_i t x ho; exact goal_box ctx hd ho h
  · rename_i t parts ho; exact goal_build ctx ho h'
  · rename_i t len parts ho; exact goal_buildSlice ctx hd ho h'
  · rename_i t x ho
    have hv := ctx.ev x
    split at h
    · rename_i id off hx
      rw [hx] at hv
      simp only [Rep] at hv
      obtain ⟨b, n, h1, hy⟩ := hv
      split at h
      · rename_i c hc
        obtain ⟨l, xs, g1, g23⟩ := ctx.mem id c hc
        obtain ⟨g2, g3⟩ := g23.cells (by rintro z rfl; exact loadK_obj h)
        rw [h1] at g1
        simp only [Option.some.injEq, Prod.mk.injEq] at g1
        obtain ⟨rfl, _⟩ := g1
        obtain ⟨d, z, k1, k2, k3⟩ := loadK_sound ctx.types h g2 (At.of_blk g3)
        rw [Nat.zero_add] at k2
        exact goal_val (S := Instr.loadAt t (a.eval x)) (by simp [execOp, ho]) ⟨d, z, k1, by simp [Instr.loadAt, hy, Instr.sureAddr, k2], k3⟩
      · exact h.elim
    · rename_i m c off hx
      rw [hx] at hv
      simp only [Rep] at hv
      obtain ⟨b, oo, xs, hy, h2, h3, h4, h5⟩ := hv
      obtain ⟨d, z, k1, k2, k3⟩ := loadK_sound ctx.types h h5 h2
      exact goal_val (S := Instr.loadAt t (a.eval x)) (by simp [execOp, ho]) ⟨d, z, k1, by simp [Instr.loadAt, hy, Instr.sureAddr, k2], k3⟩
    · exact h.elim
  · rename_i op t x y t' ho
    exact goal_val (S := (do eqGuard op t x y (a.eval x) (a.eval y); binOp op t (a.eval x) (a.eval y))) (by simp [execOp, ho]) (binK_sound ctx.types x y h (ctx.ev x) (ctx.ev y))
  · rename_i op t x ho
    exact goal_val (S := Op.unary op (a.eval x)) (by simp [execOp, ho]) (unK_sound h (ctx.ev x))
  · rename_i t u x ho; exact goal_conv ctx ho h
  · rename_i t ho
    split at h
    · rename_i kt et sz bs zr hti
      split at h
      · rename_i pk hpk
        obtain ⟨ef, g1, g2⟩ := eff_obj (x := .map #[] 0) (y := .map (some w.heap.size)) ctx hd h (fun loc' hl => ⟨heap_new _ _, by simp⟩) (fun i loc' hl => by simp only [Rep]; exact ⟨_, _, hl, rfl⟩)
        exact .inl ⟨.map (some w.heap.size), w.alloc (.map #[] 0), by simp [execOp, ho, Instr.makeMap, newObj]; rfl, ef, g1, g2⟩
      · exact h.elim
    · exact h.elim
  · rename_i t m k ok ho; exact goal_lookup ctx ho h
  · rename_i t x ho
    have hv := ctx.ev x
    split at h
    · rename_i sz bs zr b hti hx
      rw [hx] at hv
      simp only [Rep] at hv
      have hu := (ctx.types t _ hti).und
      simp only [UOk] at hu
      obtain ⟨ef, g1, g2⟩ := eff_obj (x := .stringIter b 0) (y := .pointer (some ⟨w.heap.size, 0, none⟩)) ctx hd h (fun loc' hl => heap_new _ _) (fun i loc' hl => by simp only [Rep]; exact ⟨_, _, hl, rfl⟩)
      exact .inl ⟨_, w.alloc (.stringIter b 0), by simp [execOp, ho, Instr.range, run_under hu, hv.1, newObj]; rfl, ef, g1, g2⟩
    · rename_i kt et sz bs zr id hti hx
      rw [hx] at hv
      simp only [Rep] at hv
      obtain ⟨b', n, r1, r2⟩ := hv
      have hu := (ctx.types t _ hti).und
      simp only [UOk] at hu
      split at h
      · rename_i pk kvs hc
        obtain ⟨l, xs, q1, q2⟩ := ctx.mem id _ hc
        rcases q2 with ⟨q2, _⟩ | ⟨x1, b, e1, rfl, rfl, q3⟩
        · simp [Rep] at q2
        cases e1
        rw [q1] at r1
        simp only [Option.some.injEq, Prod.mk.injEq] at r1
        obtain ⟨rfl, _⟩ := r1
        simp only [ORep] at q3
        obtain ⟨ef, g1, g2⟩ := eff_obj (x := .mapIter (some b) kvs.length #[] kvs.length) (y := .pointer (some ⟨w.heap.size, 0, none⟩)) ctx hd h (fun loc' hl => ⟨b, _, hl _ _ q1, heap_new _ _, by simp⟩) (fun i loc' hl => by simp only [Rep]; exact ⟨_, _, hl, rfl⟩)
        exact .inl ⟨_, w.alloc (.mapIter (some b) kvs.length #[] kvs.length), by simp [execOp, ho, Instr.range, run_under hu, r2, run_getObj q3.1, newObj]; rfl, ef, g1, g2⟩
      · exact h.elim
    · exact h.elim
  · rename_i x ho; exact goal_entry ctx ho h
  · rename_i fn first caps ho
    refine goal_val (S := Instr.makeFunc fn (first.map a.eval) (caps.map a.eval)) (by simp [execOp, ho]) ⟨_, _, h, rfl, ?_⟩
    simp only [Rep]
    refine ⟨first.toList.map a.eval, caps.toList.map a.eval, ?_, evs_rep ctx.ev _, evs_rep ctx.ev _⟩
    congr 1 <;> (apply Array.ext'; simp)
  · rename_i t x y ho; exact goal_make ctx hd ho h'
  · rename_i t x lo hi mx ho
    exact goal_val (S := Instr.sliceAt t (a.eval x) (lo.map a.eval) (hi.map a.eval) (mx.map a.eval)) (by simp [execOp, ho]) (sliceK_sound ctx.types ctx.ev ctx.mem h (ctx.ev x))
  · rename_i t x f ho
    exact goal_val (S := Instr.fieldAt t (a.eval x) f) (by simp [execOp, ho]) (fieldAddrK_sound ctx.types h (ctx.ev x))
  · rename_i t x f ho
    exact goal_val (S := Instr.field t (a.eval x) f) (by simp [execOp, ho]) (fieldK_sound ctx.types h (ctx.ev x))
  · rename_i t x i ho
    exact goal_val (S := Instr.indexAt t (a.eval x) (a.eval i)) (by simp [execOp, ho]) (indexAddrK_sound ctx.types h (ctx.ev x) (ctx.ev i))
  · rename_i t x i ho
    exact goal_val (S := Instr.index t (a.eval x) (a.eval i)) (by simp [execOp, ho]) (indexK_sound ctx.types h (ctx.ev x) (ctx.ev i))
  · rename_i x i ho
    have hv := ctx.ev x
    split at h
    · rename_i ds hx
      rw [hx] at hv
      simp only [Rep] at hv
      obtain ⟨vs, hy, hr⟩ := hv
      split at h
      · rename_i d hdd
        rw [force_eq] at h
        obtain ⟨y, k1, k2⟩ := hr.get _ _ hdd
        exact goal_val (S := Instr.extract (a.eval x) i) (by simp [execOp, ho]) ⟨d, y, h, by simp [Instr.extract, hy, k1], k2⟩
      · exact h.elim
    · exact h.elim
  · rename_i x ho
    have hv := ctx.ev x
    split at h
    · rename_i id off hx
      rw [hx] at hv
      have hv' := hv
      simp only [Rep] at hv
      obtain ⟨b, n, h1, hy⟩ := hv
      exact .inl ⟨_, w, by simp [execOp, ho, hy]; rfl, _, h, RowKit.Below.refl _ _, by rw [hy] at hv'; exact hv'⟩
    · rename_i m c off hx
      rw [hx] at hv
      have hv' := hv
      simp only [Rep] at hv
      obtain ⟨b, oo, xs, hy, _⟩ := hv
      exact .inl ⟨_, w, by simp [execOp, ho, hy]; rfl, _, h, RowKit.Below.refl _ _, by rw [hy] at hv'; exact hv'⟩
    · exact h.elim
  · rename_i b args ts ho; exact goal_builtin ctx ho h
  · rename_i f args ts ho; exact goal_call ctx ho h
  · exact h.elim

end
end Go.V
/- The abstract states are sound, seventh part: the invariant; a store; an append. -/
set_option linter.unusedVariables false
set_option linter.unusedSimpArgs false
set_option linter.unusedSectionVars false
namespace Go.V
variable [Globs]

theorem Same.below {ch : Nat → Prop} {w w' w'' : World} (h : Same ch w w') (hb : RowKit.Below w'.heap.size w' w'') : Same ch w w'' where
  os := hb.os.trans h.os
  tape := hb.tape.trans h.tape
  output := hb.output.trans h.output
  size := Nat.le_trans h.size hb.size
  block k hk hc := (hb.block k (Nat.lt_of_lt_of_le hk h.size)).trans (h.block k hk hc)
  grow b k e fr hk := by
    obtain ⟨k', e', fr', h1, h2⟩ := h.grow b k e fr hk
    exact ⟨k', e', fr', by rw [hb.block b (Array.getElem?_eq_some_iff.1 h1).1]; exact h1, h2⟩

theorem Same.setRow {ch : Nat → Prop} {w w' : World} (h : Same ch w w') {b : Nat} (hb : w.heap.size ≤ b ∨ ch b) (cs : Array Value) {k0 : Array Value} {e0 : TypeId} (hk0 : w'.heap[b]? = some (.cells k0 e0 (0, 0))) (hsz : k0.size ≤ cs.size) : Same ch w (w'.setRow b cs) where
  os := h.os
  tape := h.tape
  output := h.output
  size := by rw [setRow_size]; exact h.size
  block k hk hc := by
    have : k ≠ b := by rintro rfl; rcases hb with hb | hb; · omega
                       · exact hc hb
    rw [setRow_other _ _ _ _ this]
    exact h.block k hk hc
  grow b' k e fr hk := by
    obtain ⟨k', e', fr', h1, h2⟩ := h.grow b' k e fr hk
    by_cases hbb : b' = b
    · subst hbb
      rw [hk0] at h1
      cases h1
      exact ⟨cs, e0, (0, 0), setRow_heap _ _ _ _ _ _ hk0, Nat.le_trans h2 hsz⟩
    · exact ⟨k', e', fr', by rw [setRow_other _ _ _ _ hbb]; exact h1, h2⟩

structure Inv (P : Program) (T : Types) (n : Nat) (w0 : World) (bs : Nat) (l0 : Loc) (s : St) (a : Act) (w : World) (loc : Loc) : Prop where
  types : TOk P T
  low : bs ≤ w0.heap.size ∧ (bs = w0.heap.size ∨ ∀ t i, T t = some i → ∀ k e, i.u ≠ .map k e) ∧ ∀ g, (Globs.tab g).isSome = true ∨ (Globs.any g).isSome = true → g < w0.heap.size
  solo : s.c lentKey = 7 → l0 = noLoc ∧ bs = w0.heap.size
  size : a.tmps.size = n
  small : n ≤ lentKey
  defers : a.defers = []
  same : Same (chOf l0) w0 w
  tmp : ∀ i, Rep w bs loc (s.t i) (a.tmps.getD i undef)
  mem : MemOk w bs loc s.m
  cnt : ∀ id l, loc id = some l → id.1 < lentKey → id.2.1 < s.c id.1
  range : ∀ id b k, loc id = some (some b, k) → (id.1 < guardKey → (w0.heap.size ≤ b ∨ chOf l0 b)) ∧ b < w.heap.size
  live : ∀ id c, s.m id = some c → id.1 < guardKey
  lent : ∀ id, lentKey ≤ id.1 → loc id = l0 id
  inj : ∀ id id' c c' b k k', s.m id = some c → s.m id' = some c' → loc id = some (some b, k) → loc id' = some (some b, k') → id = id'
  glob : GlobOk w loc

section
variable {P : Program} {T : Types} {n bs : Nat} {w0 w : World} {l0 : Loc} {s : St} {a : Act} {loc : Loc}

theorem flat_const {x : Value} (h : ∀ a, x ≠ .agg a) (h' : ∀ a, x ≠ .tuple a) : Flat x = true := by
  cases x with
  | agg a => exact absurd rfl (h a)
  | tuple a => exact absurd rfl (h' a)
  | _ => rfl

theorem Inv.ev (h : Inv P T n w0 bs l0 s a w loc) (x : Operand) : Rep w bs loc (s.ev x) (a.eval x) := by
  cases x with
  | tmp i => exact h.tmp i
  | const v =>
    cases v with
    | agg a => simp [St.ev, Rep]
    | tuple a => simp [St.ev, Rep]
    | _ => simp [St.ev, Rep, Act.eval, Flat]
  | global g =>
    simp only [St.ev, globD]
    cases hg : Globs.tab g with
    | none => simp [Rep]
    | some xs =>
      obtain ⟨h1, h2⟩ := h.glob.tab g xs hg
      simp only [Rep, Act.eval]
      exact ⟨g, 0, xs, rfl, h1.at, h2, (by simp), rfl, Globs.flat g xs hg⟩
  | func f => simp [St.ev, Rep, RepL, Act.eval]

theorem Inv.ctx (h : Inv P T n w0 bs l0 s a w loc) : Ctx P T w bs loc s a where
  types := h.types
  ev := h.ev
  mem := h.mem
  le := Nat.le_trans h.low.1 h.same.size
  range id b k he := (h.range id b k he).2
  cnt := h.cnt
  glob := h.glob

theorem getD_put {a : Act} {i : Nat} {y : Value} (j : Nat) : (a.put (some i) y).tmps.getD j undef = if j = i ∧ i < a.tmps.size then y else a.tmps.getD j undef := by
  simp only [Act.put, Array.getD_eq_getD_getElem?, Array.getElem?_setIfInBounds]
  by_cases h : i = j
  · subst h
    by_cases h2 : i < a.tmps.size
    · simp [h2]
    · simp [h2]
  · simp [h, Ne.symm h]

theorem upd_eq {α : Type} (f : Nat → α) (i : Nat) (x : α) (j : Nat) : upd f i x j = if j = i then x else f j := by
  unfold upd
  by_cases h : j = i
  · simp [h]
  · have : (j == i) = false := by simpa using h
    simp [h, this]
theorem updI_eq {α : Type} (f : Id → α) (i : Id) (x : α) (j : Id) : updI f i x j = if j = i then x else f j := by
  unfold updI
  obtain ⟨a, b, c⟩ := i
  obtain ⟨a', b', c'⟩ := j
  by_cases h : (a', b', c') = (a, b, c)
  · simp only [Prod.mk.injEq] at h
    simp [h]
  · rw [if_neg h]
    have : (a' == a && (b' == b && c' == c)) = false := by
      rw [Bool.eq_false_iff]
      intro h'
      simp only [Bool.and_eq_true, beq_iff_eq] at h'
      exact h (by rw [h'.1, h'.2.1, h'.2.2])
    simp [this]
theorem updR_eq (m : Id → Option D) (i c : Nat) (f : Nat → Option D) (id : Id) : updR m i c f id = if id.1 = i ∧ id.2.1 = c then f id.2.2 else m id := by
  unfold updR
  by_cases h : id.1 = i ∧ id.2.1 = c
  · rw [if_pos h]; simp [h.1, h.2]
  · rw [if_neg h]
    have : (id.1 == i && id.2.1 == c) = false := by
      rw [Bool.eq_false_iff]; intro h'
      simp only [Bool.and_eq_true, beq_iff_eq] at h'
      exact h h'
    simp [this]
theorem locR_eq (loc : Loc) (i c : Nat) (g : Nat → Option (Option Nat × Nat)) (id : Id) : locR loc i c g id = if id.1 = i ∧ id.2.1 = c then g id.2.2 else loc id := by
  unfold locR
  by_cases h : id.1 = i ∧ id.2.1 = c
  · rw [if_pos h]; simp [h.1, h.2]
  · rw [if_neg h]
    have : (id.1 == i && id.2.1 == c) = false := by
      rw [Bool.eq_false_iff]; intro h'
      simp only [Bool.and_eq_true, beq_iff_eq] at h'
      exact h h'
    simp [this]

/-- A slot written, all else grown. -/
theorem tmps_put {w' : World} {loc' : Loc} (hext : Ext bs bs w loc w' loc') (h : ∀ i, Rep w bs loc (s.t i) (a.tmps.getD i undef)) {i : Nat} (hi : i < a.tmps.size) {d : D} {y : Value}
    (hd : Rep w' bs loc' d y) : ∀ j, Rep w' bs loc' (upd s.t i d j) ((a.put (some i) y).tmps.getD j undef) := by
  intro j
  rw [upd_eq, getD_put]
  by_cases hj : j = i
  · simp [hj, hi, hd]
  · simp only [hj, if_false, false_and]
    exact Rep.ext hext _ _ (h j)

theorem blk_ext {w' : World} (hb : RowKit.Below w.heap.size w w') {l : Option Nat} {xs : List Value} (h : BlkAt w l xs) : BlkAt w' l xs := by
  cases l with
  | none => exact h
  | some b =>
    obtain ⟨k, e, h1, h2⟩ := h
    have hlt : b < w.heap.size := (Array.getElem?_eq_some_iff.1 h1).1
    exact ⟨k, e, by rw [hb.block b hlt]; exact h1, h2⟩

/-- WHAT AN OPERATION LEAVES KEEPS THE INVARIANT. -/
theorem Inv.eff {w' : World} {y : Value} {e : Eff} {dst : Option Tmp} (h : Inv P T n w0 bs l0 s a w loc) (he : EffRel bs s.c dst w loc w' y e) (hd : ∀ i, dst = some i → i < n) :
    ∃ loc', Inv P T n w0 bs l0 (s.eff dst e) (a.put dst y) w' loc' := by
  have hr : ∀ id b k, loc id = some (some b, k) → b < w.heap.size := fun id b k he => (h.range id b k he).2
  cases e with
  | val d =>
    obtain ⟨hb, hrep⟩ := he
    have hext : Ext bs bs w loc w' loc := ext_below hb hr
    have hmem : MemOk w' bs loc s.m := fun id c hc => by
      obtain ⟨l, xs, g1, g2⟩ := h.mem id c hc
      exact ⟨l, xs, g1, g2.below hext hb⟩
    have hrange : ∀ id b k, loc id = some (some b, k) → (id.1 < guardKey → (w0.heap.size ≤ b ∨ chOf l0 b)) ∧ b < w'.heap.size := fun id b k he => ⟨(h.range id b k he).1, Nat.lt_of_lt_of_le (hr id b k he) hb.size⟩
    cases dst with
    | none => exact ⟨loc, h.types, h.low, h.solo, h.size, h.small, h.defers, h.same.below hb, fun i => Rep.ext hext _ _ (h.tmp i), hmem, h.cnt, hrange, h.live, h.lent, h.inj, h.glob.ext hext⟩
    | some i =>
      exact ⟨loc, h.types, h.low, h.solo, by simp [Act.put, h.size], h.small, h.defers, h.same.below hb, tmps_put hext h.tmp (by rw [h.size]; exact hd i rfl) hrep, hmem, h.cnt, hrange, h.live, h.lent, h.inj, h.glob.ext hext⟩
  | new d f =>
    obtain ⟨hb, i, g, rfl, hn⟩ := he
    have hi := hd i rfl
    have hfr : ∀ id l, loc id = some l → id.1 = i → id.2.1 < s.c i := fun id l hl hk => by
      have := h.cnt id l hl (by rw [hk]; exact Nat.lt_of_lt_of_le hi h.small)
      rw [hk] at this; exact this
    have hext : Ext bs bs w loc w' (locR loc i (s.c i) g) := ext_new hb hr hfr hn.range
    refine ⟨locR loc i (s.c i) g, h.types, h.low, (fun e => h.solo (by simp only [St.eff] at e; rw [upd_eq, if_neg (by have := Nat.lt_of_lt_of_le hi h.small; omega)] at e; exact e)), by simp [Act.put, h.size], h.small, h.defers, h.same.below hb, tmps_put hext h.tmp (by rw [h.size]; exact hi) hn.rep, ?_, ?_, ?_, ?_, ?_, ?_, h.glob.ext hext⟩
    · intro id c hc
      simp only [St.eff] at hc
      rw [updR_eq] at hc
      split at hc
      · rename_i hid
        obtain ⟨l, xs, g1, g2⟩ := hn.mem _ _ hc
        exact ⟨l, xs, by rw [locR_eq, if_pos hid]; exact g1, g2⟩
      · rename_i hid
        obtain ⟨l, xs, g1, g2⟩ := h.mem id c hc
        exact ⟨l, xs, hext.keep _ _ g1, g2.below hext hb⟩
    · intro id l hl hk
      rw [locR_eq] at hl
      simp only [St.eff]
      rw [upd_eq]
      split at hl
      · rename_i hid; rw [if_pos hid.1]; omega
      · have := h.cnt id l hl hk
        split
        · rename_i hid; rw [hid] at this; omega
        · exact this
    · intro id b k hl
      rw [locR_eq] at hl
      split at hl
      · obtain ⟨h1, h2⟩ := hn.range _ _ _ hl
        exact ⟨fun _ => .inl (Nat.le_trans h.same.size h1), h2⟩
      · obtain ⟨h1, h2⟩ := h.range _ _ _ hl
        exact ⟨h1, Nat.lt_of_lt_of_le h2 hb.size⟩
    · intro id c hc
      simp only [St.eff] at hc
      rw [updR_eq] at hc
      split at hc
      · rename_i hid
        rw [hid.1]
        exact Nat.lt_of_lt_of_le hi (Nat.le_trans h.small (by decide))
      · exact h.live id c hc
    · intro id hid
      rw [locR_eq, if_neg]
      · exact h.lent id hid
      · rintro ⟨h1, _⟩
        have := Nat.lt_of_lt_of_le hi h.small
        omega
    · intro id id' c c' b k k' hc hc' hl hl'
      simp only [St.eff] at hc hc'
      rw [updR_eq] at hc hc'
      rw [locR_eq] at hl hl'
      by_cases h1 : id.1 = i ∧ id.2.1 = s.c i <;> by_cases h2 : id'.1 = i ∧ id'.2.1 = s.c i <;> simp only [h1, h2, and_self, if_true, if_false] at hc hc' hl hl'
      · have := hn.inj _ _ _ _ _ hl hl'
        obtain ⟨x, y, z⟩ := id
        obtain ⟨x', y', z'⟩ := id'
        simp only at h1 h2 this
        rw [h1.1, h1.2, h2.1, h2.2, this]
      · have := (hn.range _ _ _ hl).1
        have := (h.range _ _ _ hl').2
        omega
      · have := (hn.range _ _ _ hl').1
        have := (h.range _ _ _ hl).2
        omega
      · exact h.inj _ _ _ _ _ _ _ hc hc' hl hl'

theorem Inv.skip (h : Inv P T n w0 bs l0 s a w loc) (dst : Option Tmp) (hd : ∀ i, dst = some i → i < n) : Inv P T n w0 bs l0 (s.put dst (.tup [])) (a.put dst undef) w loc := by
  cases dst with
  | none => exact h
  | some i =>
    have hext : Ext bs bs w loc w loc := ext_below (RowKit.Below.refl _ _) fun id b k he => (h.range id b k he).2
    exact ⟨h.types, h.low, h.solo, by simp [Act.put, h.size], h.small, h.defers, h.same, tmps_put hext h.tmp (by rw [h.size]; exact hd i rfl) (by simp only [Rep, RepL]; exact ⟨[], rfl, rfl⟩), h.mem, h.cnt, h.range, h.live, h.lent, h.inj, h.glob⟩

/-- Cells of one block of the call's own written: nothing else has changed. -/
theorem ext_setRow {id0 : Id} {b n0 : Nat} {k : Array Value} {e : TypeId} (hl : loc id0 = some (some b, n0)) (hk : w.heap[b]? = some (.cells k e (0, 0))) (k' : Array Value) (hs : k.size ≤ k'.size) {base : Nat}
    {loc' : Loc} (hkeep : ∀ id l, loc id = some l → loc' id = some l) (hav : ∀ b', b' ≠ b → loc.avoids b' → loc'.avoids b') : Ext base base w loc (w.setRow b k') loc' where
  le := Nat.le_refl _
  keep := hkeep
  old b' kk ee fr h hv := by
    have hne : b' ≠ b := by rintro rfl; exact hv _ _ hl
    exact ⟨by rw [setRow_other _ _ _ _ hne]; exact h, hav b' hne hv⟩
  own id b' nn kk ee fr h hkk := by
    by_cases hb : b' = b
    · subst hb
      rw [hk] at hkk
      cases hkk
      exact ⟨k', e, (0, 0), setRow_heap _ _ _ _ _ _ hk, hs⟩
    · exact ⟨kk, ee, fr, by rw [setRow_other _ _ _ _ hb]; exact hkk, Nat.le_refl _⟩

theorem blk_setRow_other {b : Nat} {k' : Array Value} {l : Option Nat} {xs : List Value} (hne : l ≠ some b) (h : BlkAt w l xs) : BlkAt (w.setRow b k') l xs := by
  cases l with
  | none => exact h
  | some b' =>
    obtain ⟨k, e, h1, h2⟩ := h
    have : b' ≠ b := fun e => hne (by rw [e])
    exact ⟨k, e, by rw [setRow_other _ _ _ _ this]; exact h1, h2⟩

theorem take_splice {k vs : List Value} {off m : Nat} (hm : m ≤ k.length) (h : off + vs.length ≤ m) : (splice k off vs).take m = splice (k.take m) off vs := by
  unfold splice
  apply List.ext_getElem?
  intro i
  simp only [List.getElem?_take, List.getElem?_append, List.length_append, List.length_take, List.getElem?_drop]
  by_cases h1 : i < m <;> simp only [h1, if_true, if_false]
  · have e1 : min off k.length = off := by omega
    have e2 : min off (min m k.length) = off := by omega
    simp only [e1, e2]
    repeat' split
    all_goals first | rfl | (exfalso; omega)
  · have e2 : min off (min m k.length) = off := by omega
    simp only [e2]
    rw [if_neg (by omega)]
    rw [if_neg (by omega)]

theorem putK_sound {base : Nat} {c : D} {off : Nat} {d : D} {K : D → Prop} {xs : List Value} {y : Value} (h : putK c off d K) (hc : Rep w base loc c (.agg ⟨xs⟩)) (hd : Rep w base loc d y) :
    ∃ c' us, K c' ∧ y.cells = ⟨us⟩ ∧ us.all Value.oneCell' = true ∧ off + us.length ≤ xs.length ∧ Rep w base loc c' (.agg ⟨splice xs off us⟩) := by
  have one : ∀ (xs : List Value) (y : Value), off < xs.length → splice xs off [y] = xs.set off y := by
    intro xs y hl
    have := splice_set xs off y [] hl
    rw [← this]
    simp [splice]
  unfold putK at h
  split at h
  · rename_i p q
    simp only [Rep, Value.agg.injEq] at hc hd
    obtain ⟨rfl, hf⟩ := hc
    obtain ⟨rfl, hg⟩ := hd
    refine ⟨_, _, h.2, rfl, hg, h.1, ?_⟩
    simp only [Rep, true_and, Flat]
    exact all_splice off hf hg
  · rename_i p x hx
    simp only [Rep, Value.agg.injEq] at hc hd
    obtain ⟨rfl, hf⟩ := hc
    obtain ⟨rfl, hg⟩ := hd
    obtain ⟨hy, hone⟩ : y.cells = ⟨[y]⟩ ∧ y.oneCell' = true := by
      cases y with
      | agg a => exact absurd rfl (hx a)
      | tuple a => simp [Flat] at hg
      | _ => exact ⟨rfl, rfl⟩
    refine ⟨_, [y], h.2, hy, by simp [hone], h.1, ?_⟩
    rw [one _ _ h.1]
    simp only [Rep, Flat, true_and]
    simp only [Flat, List.all_eq_true] at hf ⊢
    intro z hz
    rcases List.mem_or_eq_of_mem_set hz with hz | hz
    · exact hf z hz
    · rw [hz]; exact hone
  · split at h
    · rename_i cs hcs
      obtain ⟨hr, hone⟩ := hc.asList hcs
      split at h
      · rename_i ds
        simp only [Rep] at hd
        obtain ⟨us, rfl, g1, g2⟩ := hd
        refine ⟨_, us, h.2, rfl, g2, by rw [← hr.length, ← g1.length]; exact h.1, ?_⟩
        rw [Rep]
        exact ⟨_, rfl, hr.splice off g1, all_splice off hone g2⟩
      · rename_i bb _ _
        simp only [Rep] at hd
        obtain ⟨rfl, hg⟩ := hd
        refine ⟨_, bb.toList, h.2, rfl, hg, by rw [← hr.length]; exact h.1, ?_⟩
        rw [Rep]
        exact ⟨_, rfl, hr.splice off (.vals hg), all_splice off hone hg⟩
      · exact h.elim
      · exact h.elim
      · rename_i n1 n2 n3 n4
        obtain ⟨hy, hyone⟩ := scalar_cells hd (fun e => n3 e) (fun ds e => n4 ds e) (fun ds e => n1 ds e) (fun a e => n2 a e)
        refine ⟨_, [y], h.2, hy, by simp [hyone], by rw [← hr.length]; exact h.1, ?_⟩
        rw [one _ _ (by rw [← hr.length]; exact h.1), Rep]
        refine ⟨_, rfl, hr.set off hd, ?_⟩
        simp only [List.all_eq_true] at hone ⊢
        intro z hz
        rcases List.mem_or_eq_of_mem_set hz with hz | hz
        · exact hone z hz
        · rw [hz]; exact hyone
    · exact h.elim

theorem putK_junk {c : D} {off : Nat} {K : D → Prop} (h : putK c off .junk K) : False := by
  cases c with
  | v x => cases x <;> exact h
  | _ => exact h
theorem putK_tup {c : D} {off : Nat} {ds : List D} {K : D → Prop} (h : putK c off (.tup ds) K) : False := by
  cases c with
  | v x => cases x <;> exact h
  | _ => exact h

theorem putK_obj {x : Ob} {off : Nat} {d : D} {K : D → Prop} (h : putK (.obj x) off d K) : False := by
  cases d <;> simp [putK, asList] at h
theorem storeK_obj {T : Types} {t : TypeId} {x : Ob} {off : Nat} {d : D} {K : D → Prop} (h : storeK T t (.obj x) off d K) : False := by
  unfold storeK at h
  split at h
  · split at h
    · exact putK_obj h.2
    · exact putK_obj h.2
    · exact h
    · exact h
    · rw [asrt_iff] at h; exact putK_obj h.2
    · exact h
  · exact h
/-- Cells written: no other object has changed. -/
theorem obj_setRow {b : Nat} {k : Array Value} {e : TypeId} {fr : Nat × Nat} (hk : w.heap[b]? = some (.cells k e fr)) (k' : Array Value) {l : Option Nat} (b' : Nat) (o : Obj) (_ : l = some b') (ho : w.heap[b']? = some o) (hc : isCells o = false) : (w.setRow b k').heap[b']? = some o := by
  have : b' ≠ b := by rintro rfl; rw [hk] at ho; cases ho; cases hc
  rw [setRow_other _ _ _ _ this]; exact ho

/-- CELLS WRITTEN. -/
theorem Inv.write (h : Inv P T n w0 bs l0 s a w loc) {id : Id} {c c' : D} {b off : Nat} {xs us : List Value} {k : Array Value} {e : TypeId} (hc : s.m id = some c) (hl : loc id = some (some b, xs.length))
    (hkk : w.heap[b]? = some (.cells k e (0, 0))) (hk1 : k.toList.take xs.length = xs) (hk2 : xs.length ≤ k.size) (q4 : off + us.length ≤ xs.length) (q5 : Rep w bs loc c' (.agg ⟨splice xs off us⟩)) :
    Inv P T n w0 bs l0 { s with m := updI s.m id (some c') } a (w.setRow b ⟨splice k.toList off us⟩) loc := by
  have hsize : k.size ≤ (⟨splice k.toList off us⟩ : Array Value).size := by
    simp only [List.size_toArray]
    rw [splice_length _ _ _ (by simp; omega)]; simp
  have hext : Ext bs bs w loc (w.setRow b ⟨splice k.toList off us⟩) loc := ext_setRow hl hkk _ hsize (fun _ _ h => h) (fun _ _ h => h)
  refine ⟨h.types, h.low, h.solo, h.size, h.small, h.defers, h.same.setRow ((h.range _ _ _ hl).1 (h.live _ _ hc)) _ hkk hsize, fun i => Rep.ext hext _ _ (h.tmp i), ?_, h.cnt, fun id' b' k' he => ?_, ?_, h.lent, ?_, h.glob.ext hext⟩
  · intro id' c'' hc''
    simp only at hc''
    rw [updI_eq] at hc''
    split at hc''
    · rename_i hid
      subst hid
      simp only [Option.some.injEq] at hc''
      subst hc''
      have hlen : (splice xs off us).length = xs.length := splice_length _ _ _ q4
      refine ⟨some b, splice xs off us, by rw [hlen]; exact hl, .inl ⟨Rep.ext hext _ _ q5, _, e, setRow_heap _ _ _ _ _ _ hkk, ?_, ?_⟩⟩
      · rw [hlen]
        simp only
        rw [take_splice (by simpa using hk2) q4, hk1]
      · rw [hlen]; omega
    · rename_i hid
      obtain ⟨l', xs', p1, p2⟩ := h.mem id' c'' hc''
      refine ⟨l', xs', p1, p2.ext hext (blk_setRow_other ?_) (obj_setRow hkk _)⟩
      rintro rfl
      exact hid (h.inj _ _ _ _ _ _ _ hc'' hc p1 hl)
  · obtain ⟨h1, h2⟩ := h.range _ _ _ he
    exact ⟨h1, by rw [setRow_size]; exact h2⟩
  · intro id' c3 h3
    simp only at h3
    rw [updI_eq] at h3
    split at h3
    · rename_i hid; rw [hid]; exact h.live _ _ hc
    · exact h.live _ _ h3
  · intro id' id'' c1 c2 b' k1 k2 hc1 hc2 hl1 hl2
    have live : ∀ i' c3, updI s.m id (some c') i' = some c3 → ∃ c4, s.m i' = some c4 := by
      intro i' c3 h3
      rw [updI_eq] at h3
      split at h3
      · rename_i hid; rw [hid]; exact ⟨c, hc⟩
      · exact ⟨_, h3⟩
    obtain ⟨c3, h3⟩ := live _ _ hc1
    obtain ⟨c4, h4⟩ := live _ _ hc2
    exact h.inj _ _ _ _ _ _ _ h3 h4 hl1 hl2

/-- A STORE. -/
theorem store_sound {o : Oper} {t : TypeId} {p x : Operand} {K : St → Prop} (h : Inv P T n w0 bs l0 s a w loc) (hd : ∀ i, o.dst = some i → i < n) (ho : o.op = .store t p x) (hk : opWp P T o s K) :
    Done P o a w fun y w' => ∃ s' loc', K s' ∧ Inv P T n w0 bs l0 s' (a.put o.dst y) w' loc' := by
  simp only [opWp, ho, effK_eq, eff_junk, St.setm] at hk
  have hp := h.ev p
  have hx := h.ev x
  split at hk
  · rename_i id off hpe
    rw [hpe] at hp
    simp only [Rep] at hp
    obtain ⟨b, n0, hl, hpv⟩ := hp
    split at hk
    · rename_i c hc
      rw [force_eq] at hk
      obtain ⟨l, xs, g1, g23⟩ := h.mem id c hc
      rw [hl] at g1
      simp only [Option.some.injEq, Prod.mk.injEq] at g1
      obtain ⟨rfl, rfl⟩ := g1
      obtain ⟨g2, g3⟩ := g23.cells (by rintro z rfl; exact storeK_obj hk)
      obtain ⟨k, e, hkk, hk1, hk2⟩ := g3
      have main : ∀ {i : TI}, T t = some i → (a.eval x).cells.size = i.size → putK c off (s.ev x) (fun c' => K ({ s with m := updI s.m id (some c') }.put o.dst (.tup []))) →
          Done P o a w fun y w' => ∃ s' loc', K s' ∧ Inv P T n w0 bs l0 s' (a.put o.dst y) w' loc' := by
        intro i hi hsz hput
        obtain ⟨c', us, q1, q2, q3, q4, q5⟩ := putK_sound hput g2 hx
        have hone : ∀ v ∈ us, v.oneCell' = true := by simpa [List.all_eq_true] using q3
        have hrun := run_storeCells_at P b off e us 0 k w hkk (by simp; omega) hone
        have hks : (⟨k.toList.take (off + 0) ++ us ++ k.toList.drop (off + 0 + us.length)⟩ : Array Value) = ⟨splice k.toList off us⟩ := rfl
        have hsize : k.size ≤ (⟨splice k.toList off us⟩ : Array Value).size := by
          simp only [List.size_toArray]
          rw [splice_length _ _ _ (by simp; omega)]; simp
        have hext : Ext bs bs w loc (w.setRow b ⟨splice k.toList off us⟩) loc := ext_setRow hl hkk _ hsize (fun _ _ h => h) (fun _ _ h => h)
        refine .inr (.inl ⟨w.setRow b ⟨splice k.toList off us⟩, ?_, _, loc, q1, Inv.skip ?_ o.dst hd⟩)
        · have hsize' : (a.eval x).cells.size = i.size := hsz
          rw [← hks]
          have := run_size (w := w) h.types hi
          simp only [execOp, ho, Instr.storeAt, hpv, Instr.sureAddr, storeVar, Sem.run_bind, Sem.run_pure, Result.andThen_ok, this]
          rw [if_neg (by simp [hsize'])]
          rw [show (a.eval x).cells.toList = us by rw [q2], hrun]
          rfl
        · refine ⟨h.types, h.low, h.solo, h.size, h.small, h.defers, h.same.setRow ((h.range _ _ _ hl).1 (h.live _ _ hc)) _ hkk hsize, fun i => Rep.ext hext _ _ (h.tmp i), ?_, h.cnt, fun id' b' k' he => ?_, ?_, h.lent, ?_, h.glob.ext hext⟩
          · intro id' c'' hc''
            simp only at hc''
            rw [updI_eq] at hc''
            split at hc''
            · rename_i hid
              subst hid
              simp only [Option.some.injEq] at hc''
              subst hc''
              have hlen : (splice xs off us).length = xs.length := splice_length _ _ _ q4
              refine ⟨some b, splice xs off us, by rw [hlen]; exact hl, .inl ⟨Rep.ext hext _ _ q5, _, e, setRow_heap _ _ _ _ _ _ hkk, ?_, ?_⟩⟩
              · rw [hlen]
                simp only
                rw [take_splice (by simpa using hk2) q4, hk1]
              · rw [hlen]; omega
            · rename_i hid
              obtain ⟨l', xs', p1, p2⟩ := h.mem id' c'' hc''
              refine ⟨l', xs', p1, p2.ext hext (blk_setRow_other ?_) (obj_setRow hkk _)⟩
              rintro rfl
              exact hid (h.inj _ _ _ _ _ _ _ hc'' hc p1 hl)
          · obtain ⟨h1, h2⟩ := h.range _ _ _ he
            exact ⟨h1, by rw [setRow_size]; exact h2⟩
          · intro id' c3 h3
            simp only at h3
            rw [updI_eq] at h3
            split at h3
            · rename_i hid; rw [hid]; exact h.live _ _ hc
            · exact h.live _ _ h3
          · intro id' id'' c1 c2 b' k1 k2 hc1 hc2 hl1 hl2
            have live : ∀ i' c3, updI s.m id (some c') i' = some c3 → ∃ c4, s.m i' = some c4 := by
              intro i' c3 h3
              rw [updI_eq] at h3
              split at h3
              · rename_i hid; rw [hid]; exact ⟨c, hc⟩
              · exact ⟨_, h3⟩
            obtain ⟨c3, h3⟩ := live _ _ hc1
            obtain ⟨c4, h4⟩ := live _ _ hc2
            exact h.inj _ _ _ _ _ _ _ h3 h4 hl1 hl2
      have one : ∀ i : TI, T t = some i → (match i.isAgg, s.ev x with
            | true, .v (.agg b) => b.toList.length = i.size ∧ putK c off (s.ev x) (fun c' => K ({ s with m := updI s.m id (some c') }.put o.dst (.tup [])))
            | true, .agg ds => ds.length = i.size ∧ putK c off (s.ev x) (fun c' => K ({ s with m := updI s.m id (some c') }.put o.dst (.tup [])))
            | false, .v (.agg _) => False
            | false, .agg _ => False
            | false, d => asrt (i.size == 1) (putK c off d (fun c' => K ({ s with m := updI s.m id (some c') }.put o.dst (.tup []))))
            | _, _ => False) → Done P o a w fun y w' => ∃ s' loc', K s' ∧ Inv P T n w0 bs l0 s' (a.put o.dst y) w' loc' := by
        intro i hi hh
        split at hh
        · rename_i q hag hq
          refine main hi ?_ hh.2
          rw [hq] at hx
          simp only [Rep] at hx
          rw [hx.1, ← hh.1]; simp [Value.cells]
        · rename_i ds hag hq
          refine main hi ?_ hh.2
          rw [hq] at hx
          simp only [Rep] at hx
          obtain ⟨vs, hv, hr, _⟩ := hx
          rw [hv, ← hh.1, hr.length]; simp [Value.cells]
        · exact hh.elim
        · exact hh.elim
        · rename_i d1 hag n1 n2
          rw [asrt_iff] at hh
          have hh : i.size = 1 ∧ _ := ⟨by simpa using hh.1, hh.2⟩
          refine main hi ?_ hh.2
          obtain ⟨c1, us, _, q2, _, _⟩ := putK_sound hh.2 g2 hx
          have hnj : s.ev x ≠ .junk := by intro e1; rw [e1] at hh; exact putK_junk hh.2
          have hnt : ∀ ds, s.ev x ≠ .tup ds := by intro ds e1; rw [e1] at hh; exact putK_tup hh.2
          obtain ⟨hy, _⟩ := scalar_cells hx hnj hnt (fun ds e1 => n2 ds e1) (fun aa e1 => n1 aa e1)
          rw [hy, hh.1]; rfl
        · exact hh.elim
      unfold storeK at hk
      split at hk
      · rename_i i hi; exact one i hi hk
      · exact hk.elim
    · exact hk.elim
  · exact hk.elim

end
end Go.V
