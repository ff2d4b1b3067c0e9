/- The abstract states are sound, ninth part: operations in a row; a region whose order is open. -/
import Derived.Test.YtndlknhakdadjaaV16
set_option linter.unusedVariables false
set_option linter.unusedSimpArgs false
namespace Go.V

section
variable {P : Program} {T : Types} {n : Nat} {w0 w : World} {l0 : Loc} {s : St} {a : Act} {loc : Loc}

theorem op_sound {o : Oper} {K : St → Prop} (h : Inv P T n w0 l0 s a w loc) (hd : ∀ i, o.dst = some i → i < n) (hk : opWp P T o s K) :
    Done P o a w fun y w' => ∃ s' loc', K s' ∧ Inv P T n w0 l0 s' (a.put o.dst y) w' loc' := by
  have quiet : quietK P T o s (fun e => K (s.eff o.dst e)) → Done P o a w fun y w' => ∃ s' loc', K s' ∧ Inv P T n w0 l0 s' (a.put o.dst y) w' loc' := by
    intro hq
    have hg := quiet_sound h.ctx (fun i hi => Nat.lt_of_lt_of_le (hd i hi) h.small) hq
    have conv : ∀ y w', (∃ e, K (s.eff o.dst e) ∧ EffRel w0.heap.size s.c o.dst w loc w' y e) → ∃ s' loc', K s' ∧ Inv P T n w0 l0 s' (a.put o.dst y) w' loc' := by
      rintro y w' ⟨e, h1, h2⟩
      obtain ⟨loc', h3⟩ := h.eff h2 hd
      exact ⟨_, loc', h1, h3⟩
    rcases hg with ⟨y, w', h1, h2⟩ | ⟨w', h1, h2⟩ | ⟨f, args, w', h1, h2⟩
    · exact .inl ⟨y, w', h1, conv _ _ h2⟩
    · exact .inr (.inl ⟨w', h1, conv _ _ h2⟩)
    · refine .inr (.inr ⟨f, args, w', h1, h2.mono ?_⟩)
      rintro e w'' ⟨y, rfl, h3⟩
      exact ⟨y, rfl, conv _ _ h3⟩
  have hk' := hk
  unfold opWp at hk
  split at hk
  · rename_i t p x ho; exact store_sound h hd ho hk'
  · rename_i args ts ho; exact append_sound h hd ho hk'
  · rename_i g args ts ho
    have calm : callK P s (.fn (.func g) [] []) (args.toList.map s.ev) o.dst (fun e => effK s o.dst e K) → quietK P T o s fun e => K (s.eff o.dst e) := by
      intro hk
      unfold quietK
      rw [ho]
      have e : s.ev (.func g) = .fn (.func g) [] [] := rfl
      simpa only [effK_eq, e] using hk
    cases hm : isMut g <;> simp only [hm, cond_true, cond_false] at hk
    · exact quiet (calm hk)
    · exact callM_sound h hd ho hk
  · rename_i f args ts _ ho
    rcases hk with hk | hk
    · refine quiet ?_
      unfold quietK
      rw [ho]
      simpa only [effK_eq] using hk
    · exact callM_sound h hd ho hk
  · exact quiet (by simpa only [effK_eq] using hk)

theorem undef_no_bool (b : Bool) : undef ≠ .bool b := by
  unfold undef; simp

/-- A guard, as the abstract state has it. -/
theorem guard_yes {ops : Array Oper} {o : Oper} {yes no : Prop} (ht : ∀ i, Rep w w0.heap.size loc (s.t i) (a.tmps.getD i undef)) (h : guardK ops o s yes no) :
    (Region.wanted o (yielded ops a.tmps) = true ∧ yes) ∨ (Region.wanted o (yielded ops a.tmps) = false ∧ no) := by
  unfold guardK at h
  cases hg : o.guard with
  | none =>
    have : guardOf ops o = none := by simp [guardOf, hg]
    rw [this] at h
    exact .inl ⟨by simp [Region.wanted, hg], h⟩
  | some jw =>
    obtain ⟨j, want⟩ := jw
    have hgo : guardOf ops o = some ((ops[j]?).bind (·.dst), want) := by simp [guardOf, hg]
    rw [hgo] at h
    cases hq : (ops[j]?).bind (·.dst) with
    | none => rw [hq] at h; exact h.elim
    | some g =>
      rw [hq] at h
      simp only at h
      split at h
      · rename_i b hb
        have hr := ht g
        rw [hb] at hr
        simp only [Rep] at hr
        have hy : yielded ops a.tmps j = some b := by
          have hv := hr.1
          rw [Array.getD_eq_getD_getElem?] at hv
          cases hgt : a.tmps[g]? with
          | none => rw [hgt] at hv; exact absurd hv (undef_no_bool b)
          | some y =>
            rw [hgt] at hv
            simp only [Option.getD_some] at hv
            subst hv
            simp [yielded, hq, hgt]
        cases b <;> cases want <;> simp only at h <;> first
          | exact .inl ⟨by simp [Region.wanted, hg, hy], h⟩
          | exact .inr ⟨by simp [Region.wanted, hg, hy], h⟩
      · rename_i hb
        have hr := ht g
        rw [hb] at hr
        simp only [Rep, RepL] at hr
        obtain ⟨vs, hv, rfl⟩ := hr
        have hy : yielded ops a.tmps j = none := by
          rw [Array.getD_eq_getD_getElem?] at hv
          cases hgt : a.tmps[g]? with
          | none => simp [yielded, hq, hgt]
          | some y =>
            rw [hgt] at hv
            simp only [Option.getD_some] at hv
            subst hv
            simp [yielded, hq, hgt]
        exact .inr ⟨by simp [Region.wanted, hg, hy], h⟩
      · exact h.elim

theorem dst_lt {ops : Array Oper} (hd : dstOk n ops = true) {j : Nat} {o : Oper} (ho : ops[j]? = some o) : ∀ i, o.dst = some i → i < n := by
  intro i hi
  have hm : o ∈ ops.toList := by simpa using Array.mem_of_getElem? ho
  have := (List.all_eq_true.1 hd) o hm
  rw [hi] at this
  simpa using this

theorem ops_sound {ops : Array Oper} (hd : dstOk n ops = true) {K : St → Prop} {Q : Exit → Act → World → Prop}
    (hQ : ∀ s' a' w' loc', K s' → Inv P T n w0 l0 s' a' w' loc' → Q .normal a' w') :
    ∀ (m j : Nat) (s : St) (a : Act) (w : World) (loc : Loc), j + m = ops.size → opsWp P T ops (ops.toList.drop j) K s → Inv P T n w0 l0 s a w loc → wpOps P ops Q (List.range' j m) a w := by
  intro m
  induction m with
  | zero =>
    intro j s a w loc hj hk h
    have : ops.toList.drop j = [] := List.drop_eq_nil_of_le (by simp; omega)
    rw [this] at hk
    exact hQ _ _ _ _ hk h
  | succ m ih =>
    intro j s a w loc hj hk h
    have hlt : j < ops.size := by omega
    have ho : ops[j]? = some ops[j] := by simp [hlt]
    have hdrop : ops.toList.drop j = ops[j] :: ops.toList.drop (j + 1) := by
      rw [List.drop_eq_getElem_cons (by simpa using hlt)]
      simp
    rw [hdrop] at hk
    simp only [opsWp, effK_eq, eff_junk] at hk
    simp only [List.range'_succ, wpOps, ho]
    rcases guard_yes h.tmp hk with ⟨hw, hk⟩ | ⟨hw, hk⟩
    · rw [if_pos hw]
      left
      refine Done.wp (op_sound h (dst_lt hd ho) hk) ?_
      rintro y w' ⟨s', loc', h1, h2⟩
      exact ih (j + 1) s' _ w' loc' (by omega) h1 h2
    · rw [if_neg (by simp [hw])]
      exact ih (j + 1) _ _ w loc (by omega) hk (h.skip _ (dst_lt hd ho))

/-! ### A region whose order is open -/

theorem ev_congr {s s' : St} {x : Operand} (h : ∀ t, x = .tmp t → s.t t = s'.t t) : s.ev x = s'.ev x := by
  cases x with
  | tmp t => exact h t rfl
  | const v => cases v <;> rfl
  | _ => rfl

theorem map_ev_congr {s s' : St} {l : List Operand} (h : ∀ x ∈ l, s.ev x = s'.ev x) : l.map s.ev = l.map s'.ev := List.map_congr_left h

theorem contOf_congr {s s' : St} (h : s.m = s'.m) (x : D) : contOf s x = contOf s' x := by
  cases x <;> simp only [contOf, h]
theorem optI_congr {s s' : St} {o : Option Operand} (h : ∀ x, o = some x → s.ev x = s'.ev x) : optI s o = optI s' o := by
  cases o with
  | none => rfl
  | some x => simp only [optI, h x rfl]

theorem quietK_congr {s s' : St} {o : Oper} {K : Eff → Prop} (hev : ∀ x ∈ o.op.operands.toList, s.ev x = s'.ev x) (hm : s.m = s'.m) (hc : ∀ i, o.dst = some i → s.c i = s'.c i) (h : quietK P T o s K) : quietK P T o s' K := by
  have hnew : ∀ (dm : Id → D) (c : D), newK s o.dst dm c K → newK s' o.dst dm c K := by
    intro dm c h
    unfold newK at h ⊢
    cases hd : o.dst with
    | none => rw [hd] at h; exact h
    | some i => rw [hd] at h; simp only at h ⊢; rw [← hc i hd]; exact h
  cases hop : o.op <;> rw [hop] at hev <;> simp only [quietK, hop] at h ⊢
  case move x => rw [← hev x (by simp [Op.operands])]; exact h
  case assign x => rw [← hev x (by simp [Op.operands])]; exact h
  case pick c x y =>
    rw [← hev c (by simp [Op.operands]), ← hev x (by simp [Op.operands]), ← hev y (by simp [Op.operands])]; exact h
  case alloc t => split at h <;> first | exact hnew _ _ h | exact h.elim
  case box t x =>
    rw [← hev x (by simp [Op.operands])]
    rw [force_eq] at h ⊢
    cases hx : s.ev x <;> rw [hx] at h <;> first | exact h.elim | exact hnew _ _ h
  case build t parts =>
    have hp : evParts s parts = evParts s' parts := by
      unfold evParts
      apply List.map_congr_left
      intro p hp
      rw [hev p.2 (by simp [Op.operands]; exact ⟨p.1, by simpa using hp⟩)]
    rw [← hp]; exact h
  case buildSlice t len parts =>
    have hp : evParts s parts = evParts s' parts := by
      unfold evParts
      apply List.map_congr_left
      intro p hp
      rw [hev p.2 (by simp [Op.operands]; exact ⟨p.1, by simpa using hp⟩)]
    rw [← hp]
    split at h
    · split at h
      · split at h
        · split at h
          · rw [asrt_iff] at h ⊢; exact ⟨h.1, hnew _ _ h.2⟩
          · exact h.elim
        · exact h.elim
      · exact h.elim
    · exact h.elim
  case load t x => rw [← hev x (by simp [Op.operands]), ← hm]; exact h
  case binOp op t x y t' => rw [← hev x (by simp [Op.operands]), ← hev y (by simp [Op.operands])]; exact h
  case unOp op t x => rw [← hev x (by simp [Op.operands])]; exact h
  case convert t u x =>
    rw [← hev x (by simp [Op.operands])]
    unfold convK at h ⊢
    simp only [← contOf_congr hm]
    exact h
  case makeFunc fn first caps =>
    rw [← map_ev_congr (l := first.toList) (fun x hx => hev x (by simp [Op.operands]; left; simpa using hx)), ← map_ev_congr (l := caps.toList) (fun x hx => hev x (by simp [Op.operands]; right; simpa using hx))]
    exact h
  case makeSlice t x y =>
    rw [← hev x (by simp [Op.operands]), ← hev y (by simp [Op.operands])]
    split at h
    · split at h
      · rw [asrt_iff] at h ⊢
        exact ⟨h.1, h.2.1, hnew _ _ h.2.2⟩
      · exact h.elim
    · exact h.elim
  case slice t x lo hi mx =>
    rw [← hev x (by simp [Op.operands])]
    unfold sliceK at h ⊢
    rw [← optI_congr (s := s) (s' := s') (o := lo) (fun z hz => hev z (by simp [Op.operands, hz])), ← optI_congr (s := s) (s' := s') (o := hi) (fun z hz => hev z (by simp [Op.operands, hz])), ← hm]
    exact h
  case fieldAddr t x f => rw [← hev x (by simp [Op.operands])]; exact h
  case field t x f => rw [← hev x (by simp [Op.operands])]; exact h
  case indexAddr t x i => rw [← hev x (by simp [Op.operands]), ← hev i (by simp [Op.operands])]; exact h
  case index t x i => rw [← hev x (by simp [Op.operands]), ← hev i (by simp [Op.operands])]; exact h
  case extract x i => rw [← hev x (by simp [Op.operands])]; exact h
  case nilCheck x => rw [← hev x (by simp [Op.operands])]; exact h
  case call c =>
    obtain ⟨callee, args, ts⟩ := c
    have hargs : ∀ x ∈ args.toList, s.ev x = s'.ev x := fun x hx => hev x (by simp [Op.operands, Call.operands]; right; simpa using hx)
    cases callee with
    | builtin b => simp only at h ⊢; rw [← map_ev_congr hargs]; exact h
    | value f =>
      simp only at h ⊢
      rw [← map_ev_congr hargs, ← hev f (by simp [Op.operands, Call.operands])]
      unfold callK at h ⊢
      split at h
      · rename_i g first caps hf
        obtain ⟨dargs, res, h1, h2, h3⟩ := h
        refine ⟨dargs, res, by rw [← hm]; exact h1, h2, ?_⟩
        cases hd : o.dst with
        | none => rw [hd] at h3; exact h3
        | some i => rw [hd] at h3; simp only at h3 ⊢; rw [← hc i hd]; exact h3
      · exact h.elim
    | invoke r m => exact h

/-- What a quiet operation leaves can be named. -/
theorem quietK_pick {s : St} {o : Oper} {K : Eff → Prop} (h : quietK P T o s K) : ∃ e, K e ∧ quietK P T o s (fun e' => e' = e) := by
  have hnew : ∀ (dm : Id → D) (c : D), newK s o.dst dm c K → ∃ e, K e ∧ newK s o.dst dm c (fun e' => e' = e) := by
    intro dm c h
    unfold newK at h
    cases hd : o.dst with
    | none => rw [hd] at h; exact h.elim
    | some i => rw [hd] at h; exact ⟨_, h, by simp [newK]⟩
  have hforce : ∀ (d : D) (F : D → Eff), force d (fun d => K (F d)) → ∃ e, K e ∧ force d (fun d => F d = e) := by
    intro d F h
    rw [force_eq] at h
    exact ⟨_, h, by rw [force_eq]⟩
  have hget : ∀ (c : D) (off : Nat) (F : D → Eff), getK c off (fun d => K (F d)) → ∃ e, K e ∧ getK c off (fun d => F d = e) := by
    intro c off F h
    unfold getK at h ⊢
    split at h
    · rw [optK_iff] at h
      obtain ⟨x, hx, h⟩ := h
      exact ⟨_, h, optK_of hx rfl⟩
    · rw [optK_iff] at h
      obtain ⟨x, hx, h⟩ := h
      obtain ⟨e, h1, h2⟩ := hforce _ _ h
      exact ⟨e, h1, optK_of hx h2⟩
    · exact h.elim
  have hsub : ∀ (c : D) (off m : Nat) (F : D → Eff), subK c off m (fun d => K (F d)) → ∃ e, K e ∧ subK c off m (fun d => F d = e) := by
    intro c off m F h
    unfold subK at h ⊢
    split at h
    · exact ⟨_, h.2, h.1, rfl⟩
    · exact ⟨_, h.2, h.1, rfl⟩
    · exact h.elim
  have hload : ∀ (t : TypeId) (c : D) (off : Nat) (F : D → Eff), loadK T t c off (fun d => K (F d)) → ∃ e, K e ∧ loadK T t c off (fun d => F d = e) := by
    intro t c off F h
    unfold loadK at h ⊢
    split at h
    · split at h
      · exact hsub _ _ _ _ h
      · exact hget _ _ _ h
    · exact h.elim
  cases hop : o.op <;> simp only [quietK, hop] at h ⊢
  case move x => exact hforce _ _ h
  case assign x => exact hforce _ _ h
  case pick c x y =>
    split at h
    · split at h
      · exact hforce _ _ h
      · exact hforce _ _ h
    · exact h.elim
  case alloc t => split at h <;> first | exact hnew _ _ h | exact h.elim
  case box t x =>
    simp only [force_eq] at h ⊢
    cases hx : s.ev x <;> rw [hx] at h <;> first | exact h.elim | exact hnew _ _ h
  case build t parts =>
    split at h
    · split at h
      · split at h
        · split at h
          · exact ⟨_, h, rfl⟩
          · exact h.elim
        · exact h.elim
      · exact h.elim
    · split at h
      · split at h
        · exact ⟨_, h, rfl⟩
        · exact h.elim
      · exact h.elim
    · exact h.elim
  case buildSlice t len parts =>
    split at h
    · split at h
      · split at h
        · split at h
          · rw [asrt_iff] at h
            obtain ⟨e, h1, h2⟩ := hnew _ _ h.2
            exact ⟨e, h1, asrt_iff.2 ⟨h.1, h2⟩⟩
          · exact h.elim
        · exact h.elim
      · exact h.elim
    · exact h.elim
  case load t x =>
    split at h
    · split at h
      · exact hload _ _ _ _ h
      · exact h.elim
    · exact hload _ _ _ _ h
    · exact h.elim
  case binOp op t x y t' =>
    unfold binK at h ⊢
    split at h
    · split at h
      · exact ⟨_, h.2, h.1, rfl⟩
      · exact ⟨_, h.2, h.1, rfl⟩
      · simp only [asrt_iff] at h ⊢
        obtain ⟨h0, h⟩ := h
        split at h
        · exact ⟨_, h, h0, rfl⟩
        · exact ⟨_, h, h0, rfl⟩
        · exact ⟨_, h, h0, rfl⟩
        · exact ⟨_, h.2, h0, h.1, rfl⟩
        · exact ⟨_, h.2, h0, h.1, rfl⟩
        · exact ⟨_, h, h0, rfl⟩
        · exact ⟨_, h, h0, rfl⟩
        · exact ⟨_, h, h0, rfl⟩
        · exact ⟨_, h, h0, rfl⟩
        · split at h
          · exact ⟨_, h, h0, rfl⟩
          · exact h.elim
    · split at h
      · exact ⟨_, h.2, h.1, rfl⟩
      · split at h
        · exact ⟨_, h, rfl⟩
        · exact h.elim
    · split at h
      · obtain ⟨r, h1, h2⟩ := h; exact ⟨_, h2, r, h1, rfl⟩
      · obtain ⟨r, h1, h2⟩ := h; exact ⟨_, h2, r, h1, rfl⟩
      · exact h.elim
    · split at h
      · exact ⟨_, h, rfl⟩
      · exact ⟨_, h, rfl⟩
      · exact h.elim
    · exact h.elim
  case unOp op t x =>
    unfold unK at h ⊢
    split at h <;> first | exact ⟨_, h, rfl⟩ | exact h.elim
  case convert t u x =>
    unfold convK at h ⊢
    split at h
    · exact ⟨_, h, rfl⟩
    · exact ⟨_, h, rfl⟩
    · exact ⟨_, h, rfl⟩
    · split at h
      · exact ⟨_, h, rfl⟩
      · exact h.elim
    · split at h
      · obtain ⟨b, h1, h2⟩ := h; exact ⟨_, h2, b, h1, rfl⟩
      · exact h.elim
    · exact h.elim
  case makeFunc fn first caps => exact ⟨_, h, rfl⟩
  case makeSlice t x y =>
    split at h
    · split at h
      · rw [asrt_iff] at h
        obtain ⟨e, g1, g2⟩ := hnew _ _ h.2.2
        exact ⟨e, g1, asrt_iff.2 ⟨h.1, h.2.1, g2⟩⟩
      · exact h.elim
    · exact h.elim
  case slice t x lo hi mx =>
    unfold sliceK at h ⊢
    split at h
    · exact ⟨_, h.2, h.1, rfl⟩
    · split at h
      · rw [asrt_iff] at h
        exact ⟨_, h.2.2, asrt_iff.2 ⟨h.1, h.2.1, rfl⟩⟩
      · exact h.elim
    · split at h
      · rw [asrt_iff] at h
        obtain ⟨e, g1, g2⟩ := hsub _ _ _ _ h.2.2
        exact ⟨e, g1, asrt_iff.2 ⟨h.1, h.2.1, g2⟩⟩
      · exact h.elim
    · split at h
      · exact ⟨_, h.2, h.1, rfl⟩
      · exact h.elim
    · exact h.elim
  case fieldAddr t x f =>
    unfold fieldAddrK at h ⊢
    split at h
    · split at h
      · split at h
        · split at h
          · exact h.elim
          · split at h <;> first | exact ⟨_, h, rfl⟩ | exact h.elim
        · exact h.elim
      · exact h.elim
    · exact h.elim
  case field t x f =>
    unfold fieldK partK at h ⊢
    split at h
    · split at h
      · exact hload _ _ _ _ h
      · exact h.elim
    · exact h.elim
  case indexAddr t x i =>
    unfold indexAddrK at h ⊢
    split at h
    · split at h
      · split at h
        · obtain ⟨h0, h⟩ := h
          split at h <;> first | exact ⟨_, h, h0, rfl⟩ | exact h.elim
        · exact h.elim
      · split at h
        · split at h
          · rw [asrt_iff] at h; exact ⟨_, h.2.2, asrt_iff.2 ⟨h.1, h.2.1, rfl⟩⟩
          · rw [asrt_iff] at h; exact ⟨_, h.2.2, asrt_iff.2 ⟨h.1, h.2.1, rfl⟩⟩
          · exact h.elim
        · exact h.elim
      · exact h.elim
    · exact h.elim
  case index t x i =>
    unfold indexK partK at h ⊢
    split at h
    · split at h
      · split at h
        · obtain ⟨e, g1, g2⟩ := hload _ _ _ _ h.2
          exact ⟨e, g1, h.1, g2⟩
        · exact h.elim
      · split at h
        · exact ⟨_, h.2, h.1, rfl⟩
        · exact h.elim
      · exact h.elim
    · exact h.elim
  case extract x i =>
    split at h
    · split at h
      · exact hforce _ _ h
      · exact h.elim
    · exact h.elim
  case nilCheck x => split at h <;> first | exact ⟨_, h, rfl⟩ | exact h.elim
  case call c =>
    obtain ⟨callee, args, ts⟩ := c
    cases callee with
    | builtin b =>
      simp only at h ⊢
      unfold builtinK at h ⊢
      split at h
      · split at h
        · exact ⟨_, h, rfl⟩
        · exact ⟨_, h, rfl⟩
        · split at h
          · exact ⟨_, h, rfl⟩
          · exact h.elim
        · exact h.elim
      · exact ⟨_, h, rfl⟩
      · exact ⟨_, h, rfl⟩
      · exact h.elim
    | value f =>
      simp only at h ⊢
      unfold callK at h ⊢
      split at h
      · obtain ⟨dargs, res, h1, h2, h3⟩ := h
        cases hd : o.dst with
        | none => rw [hd] at h3; exact ⟨_, h3, dargs, res, h1, h2, rfl⟩
        | some i => rw [hd] at h3; exact ⟨_, h3, dargs, res, h1, h2, rfl⟩
      · exact h.elim
    | invoke r m => exact h.elim

end
end Go.V
