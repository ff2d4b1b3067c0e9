/- The abstract states are sound, sixth part: an operation that writes to no cell that was there comes to what the abstract state says. -/
import Derived.Test.YtndlknhakdadjaaV6
set_option linter.unusedVariables false
set_option linter.unusedSimpArgs false
namespace Go.V

section
variable {P : Program} {T : Types} {w : World} {base : Nat} {loc : Loc} {s : St} {a : Act} {o : Oper} {K : Eff → Prop}

abbrev Goal (P : Program) (w : World) (base : Nat) (loc : Loc) (s : St) (a : Act) (o : Oper) (K : Eff → Prop) : Prop :=
  Done P o a w fun y w' => ∃ e, K e ∧ EffRel base s.c o.dst w loc w' y e

theorem goal_val {S : Sem Value} (hx : execOp a.eval o = (do pure (.value (← S)))) (h : ∃ d z, K (.val d) ∧ S.run P w = .ok z w ∧ Rep w base loc d z) : Goal P w base loc s a o K := by
  obtain ⟨d, z, h1, h2, h3⟩ := h
  exact .inl ⟨z, w, by simp [hx, h2], .val d, h1, RowKit.Below.refl _ _, h3⟩

theorem goal_move {x : Operand} (ctx : Ctx P T w base loc s a) (hx : execOp a.eval o = pure (.value (a.eval x))) (h : force (s.ev x) fun d => K (.val d)) : Goal P w base loc s a o K := by
  rw [force_eq] at h
  exact .inl ⟨_, w, by simp [hx], _, h, RowKit.Below.refl _ _, ctx.ev x⟩

theorem args_rep (hm : MemOk w base loc s.m) (B : Nat) {ds ds' : List D} {vs : List Value} (h : mapO (deep false [] s.m depth) ds = some ds') (hr : RepL w base loc ds vs) : RepL w B noLoc ds' vs :=
  mapO_rep (fun d d' y => deep_arg hm B depth d d' y) h hr

theorem evs_rep (hev : ∀ x, Rep w base loc (s.ev x) (a.eval x)) : ∀ (l : List Operand), RepL w base loc (l.map s.ev) (l.map a.eval)
  | [] => by simp [RepL]
  | x :: l => by simp only [List.map_cons, RepL]; exact ⟨_, _, rfl, hev x, evs_rep hev l⟩

theorem goal_call {f : Operand} {args : Array Operand} {ts : Array TypeId} (ctx : Ctx P T w base loc s a) (ho : o.op = .call { callee := .value f, args, argTypes := ts })
    (h : callK P s (s.ev f) (args.toList.map s.ev) o.dst K) : Goal P w base loc s a o K := by
  unfold callK at h
  split at h
  · rename_i g first caps hf
    obtain ⟨dargs, res, h1, ⟨⟨fn, c, hfn, hbody, hname⟩, hsat⟩, h2⟩ := h
    have hev := ctx.ev f
    rw [hf] at hev
    simp only [Rep] at hev
    obtain ⟨fa, cb, hval, hfa, hcb⟩ := hev
    have hargs : RepL w w.heap.size noLoc dargs (fa ++ (args.toList.map a.eval ++ cb)) :=
      args_rep ctx.mem _ h1 (hfa.append ((evs_rep ctx.ev _).append hcb))
    refine .inr (.inr ⟨g, ⟨fa ++ (args.toList.map a.eval ++ cb)⟩, w, ?_, ?_⟩)
    · have hn' : ¬ fn.name = "runtime.NumGoroutine" := by simpa using hname
      have e : (⟨fa⟩ ++ (args.map a.eval ++ ⟨cb⟩) : Array Value) = ⟨fa ++ (args.toList.map a.eval ++ cb)⟩ := by
        apply Array.ext'; simp
      simp [execOp, ho, resolve, hval, Deferred.ofValue, invoke, callFunc, hfn, hn', hbody, e]
    · refine (hsat w _ hargs).mono ?_
      rintro e w' ⟨y, locr, rfl, hb, hres⟩
      refine ⟨y, rfl, ?_⟩
      cases hd : o.dst with
      | some i =>
        rw [hd] at h2
        exact ⟨_, h2, eff_of_res ctx.le ctx.range hb hres⟩
      | none =>
        rw [hd] at h2
        exact ⟨.val .junk, h2, hb, by simp [Rep]⟩
  · exact h.elim

theorem map_two {α β : Type} {f : α → β} {l : List α} {x y : β} (h : l.map f = [x, y]) : ∃ a b, l = [a, b] ∧ f a = x ∧ f b = y := by
  match l, h with
  | [], h => simp at h
  | [a], h => simp at h
  | [a, b], h => simp at h; exact ⟨a, b, rfl, h.1, h.2⟩
  | a :: b :: c :: r, h => simp at h

theorem goal_builtin {b : Builtin} {args : Array Operand} {ts : Array TypeId} (ctx : Ctx P T w base loc s a) (ho : o.op = .call { callee := .builtin b, args, argTypes := ts })
    (h : builtinK T b ts (args.toList.map s.ev) fun d => K (.val d)) : Goal P w base loc s a o K := by
  have hex : ∀ z : Value, (∀ (tys : Array TypeId) (ty : TypeId) (cs : Array Bool), (builtin b ts ty cs (args.map a.eval)).run P w = .ok (.value z) w) → (execOp a.eval o).run P w = .ok (.value z) w := by
    intro z hz
    simp [execOp, ho, resolve, invoke, hz #[]]
  unfold builtinK at h
  split at h
  · rename_i t r x hts hargs
    have hts' : ts[0]? = some t := by rw [← Array.getElem?_toList, hts]; rfl
    obtain ⟨x0, hx0, rfl⟩ : ∃ x0, args.toList = [x0] ∧ s.ev x0 = x := by
      match hl : args.toList, hargs with
      | [x0], h => exact ⟨x0, rfl, by simpa using h⟩
    have hv := ctx.ev x0
    have ha : (args.map a.eval)[0]? = some (a.eval x0) := by rw [← Array.getElem?_toList, Array.toList_map, hx0]; rfl
    split at h
    · rename_i sz bs zr b' hti hb'
      have hu := (ctx.types t _ hti).und
      simp only [UOk] at hu
      rw [hb'] at hv
      simp only [Rep] at hv
      refine .inl ⟨.int .i64 b'.size, w, hex _ fun _ _ _ => ?_, _, h, RowKit.Below.refl _ _, by simp [Rep, Flat]⟩
      simp [builtin, Builtin.len_, hts', ha, hv.1, run_under hu, goInt]
    · rename_i n e sz bs zr hti
      have hu := (ctx.types t _ hti).und
      simp only [UOk] at hu
      refine .inl ⟨.int .i64 n, w, hex _ fun _ _ _ => ?_, _, h, RowKit.Below.refl _ _, by simp [Rep, Flat]⟩
      simp [builtin, Builtin.len_, hts', ha, run_under hu, goInt]
    · rename_i e sz bs zr hti
      have hu := (ctx.types t _ hti).und
      simp only [UOk] at hu
      split at h
      · rename_i n hn
        obtain ⟨aa, cap, hy⟩ : ∃ aa cap, a.eval x0 = .slice aa n cap := by
          revert hv hn
          cases s.ev x0 with
          | slc f sz' id off len => intro hv hn; simp only [lenD, Option.some.injEq] at hn; subst hn; simp only [Rep] at hv; obtain ⟨aa, cap, _, _, hy, _⟩ := hv; exact ⟨aa, cap, hy⟩
          | row m sz' c len => intro hv hn; simp only [lenD, Option.some.injEq] at hn; subst hn; simp only [Rep] at hv; obtain ⟨aa, cap, _, hy, _⟩ := hv; exact ⟨aa, cap, hy⟩
          | v x' =>
            intro hv hn
            unfold lenD at hn
            split at hn
            · rename_i hh; simp at hh
            · rename_i hh; simp at hh
            · rename_i hh
              simp only [D.v.injEq] at hh
              subst hh
              simp only [Option.some.injEq] at hn
              subst hn
              simp only [Rep] at hv
              exact ⟨none, 0, hv.1⟩
            · simp at hn
          | _ => intro hv hn; simp [lenD] at hn
        refine .inl ⟨.int .i64 n, w, hex _ fun _ _ _ => ?_, _, h, RowKit.Below.refl _ _, by simp [Rep, Flat]⟩
        simp [builtin, Builtin.len_, hts', ha, hy, run_under hu, goInt]
      · exact h.elim
    · exact h.elim
  all_goals first
    | exact h.elim
    | (rename_i k x k' y hargs
       obtain ⟨x0, y0, hx0, hx, hy⟩ := map_two hargs
       have hvx := ctx.ev x0
       have hvy := ctx.ev y0
       rw [hx] at hvx
       rw [hy] at hvy
       simp only [Rep] at hvx hvy
       refine .inl ⟨_, w, hex _ fun _ _ _ => ?_, _, h, RowKit.Below.refl _ _, by simp only [Rep]; exact ⟨rfl, rfl⟩⟩
       simp [builtin, Builtin.max_, Builtin.min_, Builtin.max2, Builtin.min2, hx0, hvx.1, hvy.1])

theorem goal_conv {x : Operand} {t u : TypeId} (ctx : Ctx P T w base loc s a) (ho : o.op = .convert t u x) (h : convK T s t u (s.ev x) fun d => K (.val d)) : Goal P w base loc s a o K := by
  have hex : ∀ z w', (convert t u (a.eval x)).run P w = .ok z w' → (execOp a.eval o).run P w = .ok (.value z) w' := by
    intro z w' hz
    simp [execOp, ho, hz]
  have hv := ctx.ev x
  unfold convK at h
  split at h
  · rename_i i k sz bs zr k' n ht hu hx
    rw [hx] at hv
    simp only [Rep] at hv
    have h1 := (ctx.types u _ hu).und
    simp only [UOk] at h1
    obtain ⟨d, h2⟩ : ∃ d, P.underlying t = some d := by
      have := (ctx.types t _ ht).und
      cases hh : i.u <;> rw [hh] at this <;> simp only [UOk] at this <;> first | exact ⟨_, this⟩ | (obtain ⟨e, this⟩ := this; exact ⟨_, this⟩) | (obtain ⟨e, this, _⟩ := this; exact ⟨_, this⟩) | (obtain ⟨e, f, g, this⟩ := this; exact ⟨_, this⟩)
    exact .inl ⟨_, w, hex _ _ (by simp [convert, run_under h1, run_under h2, hv.1, Conv.intToInt]; rfl), _, h, RowKit.Below.refl _ _, by simp [Rep, Flat]⟩
  · rename_i i sz bs zr b ht hu hx
    rw [hx] at hv
    simp only [Rep] at hv
    have h1 := (ctx.types u _ hu).und
    simp only [UOk] at h1
    obtain ⟨d, h2⟩ : ∃ d, P.underlying t = some d := by
      have := (ctx.types t _ ht).und
      cases hh : i.u <;> rw [hh] at this <;> simp only [UOk] at this <;> first | exact ⟨_, this⟩ | (obtain ⟨e, this⟩ := this; exact ⟨_, this⟩) | (obtain ⟨e, this, _⟩ := this; exact ⟨_, this⟩) | (obtain ⟨e, f, g, this⟩ := this; exact ⟨_, this⟩)
    exact .inl ⟨.string b, w, hex _ _ (by cases d <;> simp [convert, run_under h1, run_under h2, hv.1]), _, h, RowKit.Below.refl _ _, by simp [Rep, Flat]⟩
  · rename_i i sz bs zr k n ht hu hx
    rw [hx] at hv
    simp only [Rep] at hv
    have h1 := (ctx.types u _ hu).und
    simp only [UOk] at h1
    obtain ⟨d, h2⟩ : ∃ d, P.underlying t = some d := by
      have := (ctx.types t _ ht).und
      cases hh : i.u <;> rw [hh] at this <;> simp only [UOk] at this <;> first | exact ⟨_, this⟩ | (obtain ⟨e, this⟩ := this; exact ⟨_, this⟩) | (obtain ⟨e, this, _⟩ := this; exact ⟨_, this⟩) | (obtain ⟨e, f, g, this⟩ := this; exact ⟨_, this⟩)
    exact .inl ⟨.string (Utf8.encode n), w, hex _ _ (by cases d <;> simp [convert, run_under h1, run_under h2, hv.1, Conv.intToString]), _, h, RowKit.Below.refl _ _, by simp [Rep, Flat]⟩
  · rename_i i e sz bs zr b ht hu hx
    rw [hx] at hv
    simp only [Rep] at hv
    have h1 := (ctx.types u _ hu).und
    simp only [UOk] at h1
    obtain ⟨d, h2⟩ : ∃ d, P.underlying t = some d := by
      have := (ctx.types t _ ht).und
      cases hh : i.u <;> rw [hh] at this <;> simp only [UOk] at this <;> first | exact ⟨_, this⟩ | (obtain ⟨e, this⟩ := this; exact ⟨_, this⟩) | (obtain ⟨e, this, _⟩ := this; exact ⟨_, this⟩) | (obtain ⟨e, f, g, this⟩ := this; exact ⟨_, this⟩)
    split at h
    · rename_i sz' bs' zr' he
      have h3 := (ctx.types e _ he).und
      simp only [UOk] at h3
      have hr := Lib.run_convert_string_bytes (P := P) w t u e b h2 h1 h3
      rw [← hv.1] at hr
      have hbel : RowKit.Below w.heap.size w (Lib.bytesWorld w e b) := by
        refine ⟨rfl, rfl, rfl, by rw [Lib.bytesWorld_size]; omega, fun k hk => Lib.bytesWorld_at_old w e b k hk⟩
      refine .inl ⟨_, _, hex _ _ hr, _, h, hbel, ?_⟩
      simp only [Rep]
      have hlen : (byteVals b).length = b.size := by simp [byteVals]
      refine ⟨_, _, byteVals b, rfl, ?_, ⟨rfl, ?_⟩, by rw [hlen, Nat.mul_one], ?_⟩
      · show b.size ≤ grownCap w b.size 0 e
        unfold grownCap; simp [Question.cut]
      · simp only [Flat, List.all_eq_true, byteVals, List.mem_map]
        rintro x ⟨y, _, rfl⟩
        rfl
      · right
        refine ⟨w.heap.size, 0, rfl, ⟨_, _, _, Lib.bytesWorld_at_new w e b, ?_, ?_⟩, ?_, fun _ => ctx.le⟩
        · rw [hlen]; simp [Lib.bytesCells]
        · rw [hlen]
          simp [Lib.bytesCells, byteVals]
        · intro id n he'
          have := ctx.range _ _ _ he'
          omega
    · exact h.elim
  · rename_i e sz bs zr sz' bs' zr' ht hu hx1 hx2
    have h1 := (ctx.types u _ hu).und
    have h2 := (ctx.types t _ ht).und
    simp only [UOk] at h1 h2
    split at h
    · rename_i k sz'' bs'' zr'' m arr n he hc hl
      have h3 := (ctx.types e _ he).und
      simp only [UOk] at h3
      obtain ⟨b, ⟨rfl, rfl, hb, hsz⟩, hk⟩ := h
      obtain ⟨aa, cap, xs, hy, hle, hr, hlen, hat⟩ := contOf_sound ctx.mem hv hc hl (.inl hsz)
      simp only [Rep, Value.agg.injEq] at hr
      obtain ⟨hxs, _⟩ := hr
      have hxs : xs = byteVals b := by rw [← hb, ← hxs]
      refine .inl ⟨.string b, w, hex _ _ ?_, _, hk, RowKit.Below.refl _ _, by simp [Rep, Flat]⟩
      rw [hy, run_convert_bytes_string w t u e aa _ cap h2 h3 h1]
      rcases hat with hz | ⟨bb, oo, rfl, hat⟩
      · have hl0 : xs.length = b.size := by rw [hxs]; simp [byteVals]
        have hb0 : b = ByteArray.empty := by
          have : b.data.toList = [] := List.eq_nil_of_length_eq_zero (by rw [Array.length_toList]; show b.size = 0; omega)
          obtain ⟨⟨l⟩⟩ := b
          simp at this
          subst this
          rfl
        subst hb0
        cases aa with
        | none => rfl
        | some q =>
          have hload : (loadCells q (ByteArray.empty.size)).run P w = .ok (([] : List Int).map (Value.int .u8)).toArray w := by
            show (loadCells q 0).run P w = _
            simp [loadCells, loadCellsFrom]
          have := run_bytesToString (P := P) w q _ cap [] hload
          simpa using this
      · have hload := run_loadCells_at (P := P) hat
        have hl0 : xs.length = b.size := by rw [hxs]; simp [byteVals]
        rw [hl0] at hload
        have := run_bytesToString (P := P) w ⟨bb, oo, none⟩ b.size cap (b.data.toList.map fun b => ((b.toNat : Nat) : Int)) (by rw [hload, hxs]; simp [byteVals, Function.comp_def])
        rw [this, bytes_back]
    · exact h.elim
  · exact h.elim

theorem goal_alloc {t : TypeId} (ctx : Ctx P T w base loc s a) (hd : ∀ i, o.dst = some i → i < lentKey) (ho : o.op = .alloc t) {i : TI} (hi : T t = some i)
    (h : newK s o.dst (fun id => .ptr id 0) (cont (.v i.zero)) K) : Goal P w base loc s a o K := by
  have ht := ctx.types t i hi
  obtain ⟨xs, h1, h2⟩ := cont_rep (w := w) (base := base) (loc := loc) (d := .v i.zero) (y := i.zero) (by simp only [Rep, true_and]; exact ht.flat) (by simp) (by simp)
  obtain ⟨ef, g1, g2⟩ := eff_new (e := t) (y := .pointer (some ⟨w.heap.size, 0, none⟩)) ctx hd h h2 [] (fun j loc' hl => by simp only [Rep]; exact ⟨_, _, hl, rfl⟩)
  refine .inl ⟨_, _, ?_, ef, g1, g2⟩
  simp [execOp, ho, Instr.alloc, run_zero ctx.types hi, newVar, newRow, h1]

theorem goal_box {t : TypeId} {x : Operand} (ctx : Ctx P T w base loc s a) (hd : ∀ i, o.dst = some i → i < lentKey) (ho : o.op = .box t x)
    (h : force (s.ev x) fun d => (match d with | .junk => False | .tup _ => False | d => newK s o.dst (fun id => .ptr id 0) (cont d) K)) : Goal P w base loc s a o K := by
  rw [force_eq] at h
  have hv := ctx.ev x
  have main : s.ev x ≠ .junk → (∀ ds, s.ev x ≠ .tup ds) → newK s o.dst (fun id => .ptr id 0) (cont (s.ev x)) K → Goal P w base loc s a o K := by
    intro n1 n2 h
    obtain ⟨xs, h1, h2⟩ := cont_rep hv n1 n2
    obtain ⟨ef, g1, g2⟩ := eff_new (e := t) (y := .pointer (some ⟨w.heap.size, 0, none⟩)) ctx hd h h2 [] (fun j loc' hl => by simp only [Rep]; exact ⟨_, _, hl, rfl⟩)
    refine .inl ⟨_, _, ?_, ef, g1, g2⟩
    simp [execOp, ho, Instr.box, newVar, newRow, h1]
  cases hx : s.ev x with
  | junk => rw [hx] at h; exact h.elim
  | tup ds => rw [hx] at h; exact h.elim
  | _ => rw [hx] at h; exact main (by simp [hx]) (by simp [hx]) (by rw [hx]; exact h)

theorem mapM_places (hT : TOk P T) : ∀ (fs : List Field) (pl : List (Nat × Nat)), mapO (fun p : Nat × TypeId => match T p.2 with | some ti => some (p.1, ti.size) | none => none) (fs.map fun f => (f.offset, f.type)) = some pl →
    (fs.mapM fun f => do pure (f.offset, ← sizeOf f.type) : Sem (List (Nat × Nat))).run P w = .ok pl w
  | [], pl, h => by simp only [List.map_nil, mapO, Option.some.injEq] at h; subst h; simp
  | f :: fs, pl, h => by
    simp only [List.map_cons, mapO] at h
    split at h
    · rename_i p hp
      split at h
      · rename_i ps hps
        simp only [Option.some.injEq] at h
        subst h
        split at hp
        · rename_i ti hti
          simp only [Option.some.injEq] at hp
          subst hp
          have ih := mapM_places hT fs ps hps
          simp only [bind_pure_comp] at ih
          simp [List.mapM_cons, run_size hT hti, ih]
        · simp at hp
      · simp at h
    · simp at h

theorem zero_rep (hT : TOk P T) {t : TypeId} {i : TI} (hi : T t = some i) {zs : List D} (hz : asList (cont (.v i.zero)) = some zs) :
    RepL w base loc zs i.zero.cells.toList ∧ i.zero.cells.toList.all Value.oneCell' = true ∧ zs.length = i.size := by
  have ht := hT t i hi
  obtain ⟨xs, h1, h2⟩ := cont_rep (w := w) (base := base) (loc := loc) (d := .v i.zero) (y := i.zero) (by simp only [Rep, true_and]; exact ht.flat) (by simp) (by simp)
  obtain ⟨h3, h4⟩ := h2.asList hz
  rw [h1]
  refine ⟨h3, h4, ?_⟩
  rw [h3.length, ← ht.size, h1]
  rfl

theorem goal_build {t : TypeId} {parts : Array (Nat × Operand)} (ctx : Ctx P T w base loc s a) (ho : o.op = .build t parts) (h : quietK P T o s K) : Goal P w base loc s a o K := by
  simp only [quietK, ho] at h
  have hex : ∀ z, (Instr.build t (parts.map fun (i, x) => (i, a.eval x))).run P w = .ok z w → (execOp a.eval o).run P w = .ok (.value z) w := by
    intro z hz
    simp only [execOp, ho, Sem.run_bind]
    rw [hz]
    simp
  have hparts : (parts.map fun (p : Nat × Operand) => (p.1, a.eval p.2)).toList = parts.toList.map fun p => (p.1, a.eval p.2) := by simp
  split at h
  · rename_i fs sz bs z hi
    obtain ⟨fields, hu, hfs⟩ := (ctx.types t _ hi).und
    split at h
    · rename_i zs hzs
      split at h
      · rename_i pl hpl
        split at h
        · rename_i ds hds
          obtain ⟨h1, h2, h3⟩ := zero_rep (w := w) (base := base) (loc := loc) ctx.types hi hzs
          obtain ⟨us, g1, g2, g3, g4⟩ := fill_sound ctx.ev parts.toList zs _ ds h1 h2 hds
          refine .inl ⟨.agg ⟨us⟩, w, hex _ ?_, _, h, RowKit.Below.refl _ _, Rep.mkAgg g2 g3⟩
          have hm := mapM_places (P := P) (w := w) ctx.types fields.toList pl (by rw [hfs]; exact hpl)
          have hm' : (fields.mapM fun f => do pure (f.offset, ← sizeOf f.type) : Sem (Array (Nat × Nat))).run P w = .ok ⟨pl⟩ w := by
            rw [Array.mapM_eq_mapM_toList]
            simp only [Sem.run_map]
            rw [hm]
            rfl
          have hpl2 : (fun i : Nat => (⟨pl⟩ : Array (Nat × Nat))[i]?) = fun i : Nat => pl[i]? := by funext i; simp
          simp only [Instr.build, Sem.run_bind, run_zero ctx.types hi, Result.andThen_ok, run_under hu, hm', hpl2, hparts]
          have hc : (z.cells : Array Value) = ⟨z.cells.toList⟩ := rfl
          rw [hc, g1]
          rfl
        · exact h.elim
      · exact h.elim
    · exact h.elim
  · rename_i n e sz bs z hi
    have hu := (ctx.types t _ hi).und
    simp only [UOk] at hu
    split at h
    · rename_i ti zs hti hzs
      split at h
      · rename_i ds hds
        obtain ⟨h1, h2, h3⟩ := zero_rep (w := w) (base := base) (loc := loc) ctx.types hi hzs
        obtain ⟨us, g1, g2, g3, g4⟩ := fill_sound ctx.ev parts.toList zs _ ds h1 h2 hds
        refine .inl ⟨.agg ⟨us⟩, w, hex _ ?_, _, h, RowKit.Below.refl _ _, Rep.mkAgg g2 g3⟩
        simp only [Instr.build, Sem.run_bind, run_zero ctx.types hi, Result.andThen_ok, run_under hu, run_size ctx.types hti, hparts]
        have hc : (z.cells : Array Value) = ⟨z.cells.toList⟩ := rfl
        rw [hc, g1]
        rfl
      · exact h.elim
    · exact h.elim
  · exact h.elim

theorem goal_buildSlice {t : TypeId} {len : Nat} {parts : Array (Nat × Operand)} (ctx : Ctx P T w base loc s a) (hd : ∀ i, o.dst = some i → i < lentKey) (ho : o.op = .buildSlice t len parts) (h : quietK P T o s K) : Goal P w base loc s a o K := by
  simp only [quietK, ho] at h
  have hex : ∀ z w', (Instr.buildSlice t len (parts.map fun (i, x) => (i, a.eval x))).run P w = .ok z w' → (execOp a.eval o).run P w = .ok (.value z) w' := by
    intro z w' hz
    simp only [execOp, ho, Sem.run_bind]
    rw [hz]
    simp
  have hparts : (parts.map fun (p : Nat × Operand) => (p.1, a.eval p.2)).toList = parts.toList.map fun p => (p.1, a.eval p.2) := by simp
  split at h
  · rename_i e sz bs z hi
    have hu := (ctx.types t _ hi).und
    simp only [UOk] at hu
    split at h
    · rename_i ti hti
      split at h
      · rename_i zs hzs
        split at h
        · rename_i ds hds
          rw [asrt_iff] at h
          obtain ⟨hlim, h⟩ := h
          have hlim := Nat.le_of_ble_eq_true hlim
          obtain ⟨h1, h2, h3⟩ := zero_rep (w := w) (base := base) (loc := loc) ctx.types hti hzs
          obtain ⟨us, g1, g2, g3, g4⟩ := fill_sound ctx.ev parts.toList _ _ ds (h1.rep len) (all_rep len h2) hds
          have hsz : ti.zero.cells.size = ti.size := (ctx.types e _ hti).size
          have hul : us.length = len * ti.size := by rw [g4, rep_length, Array.length_toList, hsz]
          obtain ⟨ef, k1, k2⟩ := eff_new (e := e) (y := .slice (some ⟨w.heap.size, 0, none⟩) len len) ctx hd h (Rep.mkAgg g2 g3) [] (fun j loc' hl => by
            rw [Rep]
            refine ⟨_, _, _, _, rfl, Nat.le_refl _, hl, by omega, fun _ => ⟨rfl, hul.symm⟩, 0, rfl, fun _ => rfl, fun _ => ⟨rfl, _, _, _, heap_new _ _, ?_⟩⟩
            simp; omega)
          refine .inl ⟨_, _, hex _ _ ?_, ef, k1, k2⟩
          have hlim' : ¬ (len * ti.size > 2 ^ 24) := by simpa using hlim
          simp only [Instr.buildSlice, Sem.run_bind, run_under hu, Result.andThen_ok, run_size ctx.types hti, if_neg hlim', Sem.run_pure, hparts, List.append_nil]
          by_cases hz : len * ti.size = 0
          · have hr : (Array.map (fun x => (#[] : Array Value)[x % (#[] : Array Value).size]!) (Array.range (len * ti.size))) = ⟨rep len ti.zero.cells.toList⟩ := by
              apply Array.ext'
              have : (rep len ti.zero.cells.toList).length = 0 := by rw [rep_length, Array.length_toList, hsz, hz]
              rw [List.eq_nil_of_length_eq_zero this]
              simp [hz]
            rw [if_pos hz]
            simp only [Sem.run_bind, Sem.run_pure, Result.andThen_ok]
            rw [hr, g1]
            simp [newRow]
          · have hr : (Array.map (fun x => ti.zero.cells[x % ti.zero.cells.size]!) (Array.range (len * ti.size))) = ⟨rep len ti.zero.cells.toList⟩ := by
              apply Array.ext'
              rw [← hsz]
              exact zeros_rep _ _
            rw [if_neg hz]
            simp only [Sem.run_bind, run_zero ctx.types hti, Sem.run_pure, Result.andThen_ok]
            rw [hr, g1]
            simp [newRow]
        · exact h.elim
      · exact h.elim
    · exact h.elim
  · exact h.elim

theorem goal_make {t : TypeId} {x y : Operand} (ctx : Ctx P T w base loc s a) (hd : ∀ i, o.dst = some i → i < lentKey) (ho : o.op = .makeSlice t x y) (h : quietK P T o s K) : Goal P w base loc s a o K := by
  simp only [quietK, ho] at h
  have hex : ∀ z w', (Instr.makeSlice t (a.eval x) (a.eval y)).run P w = .ok z w' → (execOp a.eval o).run P w = .ok (.value z) w' := by
    intro z w' hz
    simp [execOp, ho, hz]
  split at h
  · rename_i e sz bs z k n k' m hi hx hy
    have hu := (ctx.types t _ hi).und
    simp only [UOk] at hu
    have hvx := ctx.ev x
    have hvy := ctx.ev y
    rw [hx] at hvx
    rw [hy] at hvy
    simp only [Rep] at hvx hvy
    split at h
    · rename_i ti hti
      rw [asrt_iff] at h
      obtain ⟨h5, ⟨h0, h1, h2, h3⟩, h⟩ := h
      have ht := ctx.types e ti hti
      have h4 : ti.zero.cells.toList.length = ti.size := by rw [Array.length_toList]; exact ht.size
      obtain ⟨tinfo, i1, i2, i3, i4⟩ := ht.info
      have hone : ti.zero.cells.toList.all Value.oneCell' = true := by
        have := ht.flat
        cases hz : ti.zero with
        | agg arr => rw [hz] at this; simpa [Flat, Value.cells] using this
        | tuple arr => rw [hz] at this; simp [Flat] at this
        | _ => simp [Value.cells, Value.oneCell']
      have hc : Rep w base loc (.v (.agg ⟨rep n.toNat ti.zero.cells.toList⟩)) (.agg ⟨rep n.toNat ti.zero.cells.toList⟩) := by
        simp only [Rep, Flat, true_and]; exact all_rep _ hone
      have hl : (rep n.toNat ti.zero.cells.toList).length = n.toNat * ti.size := by rw [rep_length, h4]
      obtain ⟨ef, k1, k2⟩ := eff_new (e := e) (y := .slice (some ⟨w.heap.size, 0, none⟩) n.toNat m.toNat) ctx hd h hc (rep (m.toNat - n.toNat) ti.zero.cells.toList) (fun j loc' hl' => by
        rw [Rep]
        refine ⟨_, _, _, _, rfl, by omega, hl', by omega, fun _ => ⟨rfl, hl.symm⟩, 0, rfl, fun _ => rfl, fun _ => ⟨rfl, _, _, _, heap_new _ _, ?_⟩⟩
        simp only [List.size_toArray, ← rep_add, rep_length, h4]
        have : n.toNat + (m.toNat - n.toNat) = m.toNat := by omega
        rw [this]
        exact Nat.le_refl _)
      refine .inl ⟨_, _, hex _ _ ?_, ef, k1, k2⟩
      have hb : (tinfo.bytes : Int) * m ≤ 281474976710656 := by rw [i3, Int.mul_comm]; omega
      have := run_make (P := P) w t e tinfo ti.zero hu i1 i4 k k' n m h0 h1 hb (by omega)
      rw [hvx.1, hvy.1, this]
      congr 3
      apply Array.ext'
      rw [i2, ← rep_add]
      have hmn : n.toNat + (m.toNat - n.toNat) = m.toNat := by omega
      rw [hmn, ← ht.size]
      exact zeros_rep _ _
    · exact h.elim
  · exact h.elim

/-- ALL OF THEM. -/
theorem quiet_sound (ctx : Ctx P T w base loc s a) (hd : ∀ i, o.dst = some i → i < lentKey) (h : quietK P T o s K) : Goal P w base loc s a o K := by
  have h' := h
  unfold quietK at h
  split at h
  · rename_i x ho; exact goal_move ctx (by simp [execOp, ho]) h
  · rename_i x ho; exact goal_move ctx (by simp [execOp, ho]) h
  · rename_i c x y ho
    have hv := ctx.ev c
    split at h
    · rename_i b hb
      rw [hb] at hv
      simp only [Rep] at hv
      cases b
      · exact goal_move ctx (x := y) (by simp [execOp, ho, hv.1, asBool]) h
      · exact goal_move ctx (x := x) (by simp [execOp, ho, hv.1, asBool]) h
    · exact h.elim
  · rename_i t ho
    split at h
    · rename_i i hi; exact goal_alloc ctx hd ho hi h
    · exact h.elim
  · rename_i t x ho; exact goal_box ctx hd ho h
  · rename_i t parts ho; exact goal_build ctx ho h'
  · rename_i t len parts ho; exact goal_buildSlice ctx hd ho h'
  · rename_i t x ho
    have hv := ctx.ev x
    split at h
    · rename_i id off hx
      rw [hx] at hv
      simp only [Rep] at hv
      obtain ⟨b, n, h1, hy⟩ := hv
      split at h
      · rename_i c hc
        obtain ⟨l, xs, g1, g2, g3⟩ := ctx.mem id c hc
        rw [h1] at g1
        simp only [Option.some.injEq, Prod.mk.injEq] at g1
        obtain ⟨rfl, _⟩ := g1
        obtain ⟨d, z, k1, k2, k3⟩ := loadK_sound ctx.types h g2 (At.of_blk g3)
        rw [Nat.zero_add] at k2
        exact goal_val (S := Instr.loadAt t (a.eval x)) (by simp [execOp, ho]) ⟨d, z, k1, by simp [Instr.loadAt, hy, Instr.sureAddr, k2], k3⟩
      · exact h.elim
    · rename_i m c off hx
      rw [hx] at hv
      simp only [Rep] at hv
      obtain ⟨b, oo, xs, hy, h2, h3, h4, h5⟩ := hv
      obtain ⟨d, z, k1, k2, k3⟩ := loadK_sound ctx.types h h5 h2
      exact goal_val (S := Instr.loadAt t (a.eval x)) (by simp [execOp, ho]) ⟨d, z, k1, by simp [Instr.loadAt, hy, Instr.sureAddr, k2], k3⟩
    · exact h.elim
  · rename_i op t x y t' ho
    exact goal_val (S := (do eqGuard op t x y (a.eval x) (a.eval y); binOp op t (a.eval x) (a.eval y))) (by simp [execOp, ho]) (binK_sound ctx.types x y h (ctx.ev x) (ctx.ev y))
  · rename_i op t x ho
    exact goal_val (S := Op.unary op (a.eval x)) (by simp [execOp, ho]) (unK_sound h (ctx.ev x))
  · rename_i t u x ho; exact goal_conv ctx ho h
  · rename_i fn first caps ho
    refine goal_val (S := Instr.makeFunc fn (first.map a.eval) (caps.map a.eval)) (by simp [execOp, ho]) ⟨_, _, h, rfl, ?_⟩
    simp only [Rep]
    refine ⟨first.toList.map a.eval, caps.toList.map a.eval, ?_, evs_rep ctx.ev _, evs_rep ctx.ev _⟩
    congr 1 <;> (apply Array.ext'; simp)
  · rename_i t x y ho; exact goal_make ctx hd ho h'
  · rename_i t x lo hi mx ho
    exact goal_val (S := Instr.sliceAt t (a.eval x) (lo.map a.eval) (hi.map a.eval) (mx.map a.eval)) (by simp [execOp, ho]) (sliceK_sound ctx.types ctx.ev ctx.mem h (ctx.ev x))
  · rename_i t x f ho
    exact goal_val (S := Instr.fieldAt t (a.eval x) f) (by simp [execOp, ho]) (fieldAddrK_sound ctx.types h (ctx.ev x))
  · rename_i t x f ho
    exact goal_val (S := Instr.field t (a.eval x) f) (by simp [execOp, ho]) (fieldK_sound ctx.types h (ctx.ev x))
  · rename_i t x i ho
    exact goal_val (S := Instr.indexAt t (a.eval x) (a.eval i)) (by simp [execOp, ho]) (indexAddrK_sound ctx.types h (ctx.ev x) (ctx.ev i))
  · rename_i t x i ho
    exact goal_val (S := Instr.index t (a.eval x) (a.eval i)) (by simp [execOp, ho]) (indexK_sound ctx.types h (ctx.ev x) (ctx.ev i))
  · rename_i x i ho
    have hv := ctx.ev x
    split at h
    · rename_i ds hx
      rw [hx] at hv
      simp only [Rep] at hv
      obtain ⟨vs, hy, hr⟩ := hv
      split at h
      · rename_i d hdd
        rw [force_eq] at h
        obtain ⟨y, k1, k2⟩ := hr.get _ _ hdd
        exact goal_val (S := Instr.extract (a.eval x) i) (by simp [execOp, ho]) ⟨d, y, h, by simp [Instr.extract, hy, k1], k2⟩
      · exact h.elim
    · exact h.elim
  · rename_i x ho
    have hv := ctx.ev x
    split at h
    · rename_i id off hx
      rw [hx] at hv
      have hv' := hv
      simp only [Rep] at hv
      obtain ⟨b, n, h1, hy⟩ := hv
      exact .inl ⟨_, w, by simp [execOp, ho, hy]; rfl, _, h, RowKit.Below.refl _ _, by rw [hy] at hv'; exact hv'⟩
    · rename_i m c off hx
      rw [hx] at hv
      have hv' := hv
      simp only [Rep] at hv
      obtain ⟨b, oo, xs, hy, _⟩ := hv
      exact .inl ⟨_, w, by simp [execOp, ho, hy]; rfl, _, h, RowKit.Below.refl _ _, by rw [hy] at hv'; exact hv'⟩
    · exact h.elim
  · rename_i b args ts ho; exact goal_builtin ctx ho h
  · rename_i f args ts ho; exact goal_call ctx ho h
  · exact h.elim

end
end Go.V
