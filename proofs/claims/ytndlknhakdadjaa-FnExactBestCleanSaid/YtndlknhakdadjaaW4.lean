import Derived.Test.YtndlknhakdadjaaW3
import Derived.Deep.LoopGhost
set_option linter.unusedVariables false
set_option linter.unusedSimpArgs false
/- The abstract states are sound, ninth part: operations in a row; a region whose order is open. -/
set_option linter.unusedVariables false
set_option linter.unusedSimpArgs false
namespace Go.V

section
variable {P : Program} {T : Types} {n : Nat} {w0 w : World} {l0 : Loc} {s : St} {a : Act} {loc : Loc}

theorem op_sound {o : Oper} {K : St → Prop} (h : Inv P T n w0 l0 s a w loc) (hd : ∀ i, o.dst = some i → i < n) (hk : opWp P T o s K) :
    Done P o a w fun y w' => ∃ s' loc', K s' ∧ Inv P T n w0 l0 s' (a.put o.dst y) w' loc' := by
  have quiet : quietK P T o s (fun e => K (s.eff o.dst e)) → Done P o a w fun y w' => ∃ s' loc', K s' ∧ Inv P T n w0 l0 s' (a.put o.dst y) w' loc' := by
    intro hq
    have hg := quiet_sound h.ctx (fun i hi => Nat.lt_of_lt_of_le (hd i hi) h.small) hq
    have conv : ∀ y w', (∃ e, K (s.eff o.dst e) ∧ EffRel w0.heap.size s.c o.dst w loc w' y e) → ∃ s' loc', K s' ∧ Inv P T n w0 l0 s' (a.put o.dst y) w' loc' := by
      rintro y w' ⟨e, h1, h2⟩
      obtain ⟨loc', h3⟩ := h.eff h2 hd
      exact ⟨_, loc', h1, h3⟩
    rcases hg with ⟨y, w', h1, h2⟩ | ⟨w', h1, h2⟩ | ⟨f, args, w', h1, h2⟩
    · exact .inl ⟨y, w', h1, conv _ _ h2⟩
    · exact .inr (.inl ⟨w', h1, conv _ _ h2⟩)
    · refine .inr (.inr ⟨f, args, w', h1, h2.mono ?_⟩)
      rintro e w'' ⟨y, rfl, h3⟩
      exact ⟨y, rfl, conv _ _ h3⟩
  have hk' := hk
  unfold opWp at hk
  split at hk
  · rename_i t p x ho; exact store_sound h hd ho hk'
  · rename_i args ts ho; exact append_sound h hd ho hk'
  · rename_i g args ts ho
    have calm : callK P s (.fn (.func g) [] []) (args.toList.map s.ev) o.dst (fun e => effK s o.dst e K) → quietK P T o s fun e => K (s.eff o.dst e) := by
      intro hk
      unfold quietK
      rw [ho]
      have e : s.ev (.func g) = .fn (.func g) [] [] := rfl
      simpa only [effK_eq, e] using hk
    cases hm : isMut g <;> simp only [hm, cond_true, cond_false] at hk
    · exact quiet (calm hk)
    · exact callM_sound h hd ho hk
  · rename_i f args ts _ ho
    rcases hk with hk | hk
    · refine quiet ?_
      unfold quietK
      rw [ho]
      simpa only [effK_eq] using hk
    · exact callM_sound h hd ho hk
  · exact quiet (by simpa only [effK_eq] using hk)

theorem undef_no_bool (b : Bool) : undef ≠ .bool b := by
  unfold undef; simp

/-- A guard, as the abstract state has it. -/
theorem guard_yes {ops : Array Oper} {o : Oper} {yes no : Prop} (ht : ∀ i, Rep w w0.heap.size loc (s.t i) (a.tmps.getD i undef)) (h : guardK ops o s yes no) :
    (Region.wanted o (yielded ops a.tmps) = true ∧ yes) ∨ (Region.wanted o (yielded ops a.tmps) = false ∧ no) := by
  unfold guardK at h
  cases hg : o.guard with
  | none =>
    have : guardOf ops o = none := by simp [guardOf, hg]
    rw [this] at h
    exact .inl ⟨by simp [Region.wanted, hg], h⟩
  | some jw =>
    obtain ⟨j, want⟩ := jw
    have hgo : guardOf ops o = some ((ops[j]?).bind (·.dst), want) := by simp [guardOf, hg]
    rw [hgo] at h
    cases hq : (ops[j]?).bind (·.dst) with
    | none => rw [hq] at h; exact h.elim
    | some g =>
      rw [hq] at h
      simp only at h
      split at h
      · rename_i b hb
        have hr := ht g
        rw [hb] at hr
        simp only [Rep] at hr
        have hy : yielded ops a.tmps j = some b := by
          have hv := hr.1
          rw [Array.getD_eq_getD_getElem?] at hv
          cases hgt : a.tmps[g]? with
          | none => rw [hgt] at hv; exact absurd hv (undef_no_bool b)
          | some y =>
            rw [hgt] at hv
            simp only [Option.getD_some] at hv
            subst hv
            simp [yielded, hq, hgt]
        cases b <;> cases want <;> simp only at h <;> first
          | exact .inl ⟨by simp [Region.wanted, hg, hy], h⟩
          | exact .inr ⟨by simp [Region.wanted, hg, hy], h⟩
      · rename_i hb
        have hr := ht g
        rw [hb] at hr
        simp only [Rep, RepL] at hr
        obtain ⟨vs, hv, rfl⟩ := hr
        have hy : yielded ops a.tmps j = none := by
          rw [Array.getD_eq_getD_getElem?] at hv
          cases hgt : a.tmps[g]? with
          | none => simp [yielded, hq, hgt]
          | some y =>
            rw [hgt] at hv
            simp only [Option.getD_some] at hv
            subst hv
            simp [yielded, hq, hgt]
        exact .inr ⟨by simp [Region.wanted, hg, hy], h⟩
      · exact h.elim

theorem dst_lt {ops : Array Oper} (hd : dstOk n ops = true) {j : Nat} {o : Oper} (ho : ops[j]? = some o) : ∀ i, o.dst = some i → i < n := by
  intro i hi
  have hm : o ∈ ops.toList := by simpa using Array.mem_of_getElem? ho
  have := (List.all_eq_true.1 hd) o hm
  rw [hi] at this
  simpa using this

theorem ops_sound {ops : Array Oper} (hd : dstOk n ops = true) {K : St → Prop} {Q : Exit → Act → World → Prop}
    (hQ : ∀ s' a' w' loc', K s' → Inv P T n w0 l0 s' a' w' loc' → Q .normal a' w') :
    ∀ (m j : Nat) (s : St) (a : Act) (w : World) (loc : Loc), j + m = ops.size → opsWp P T ops (ops.toList.drop j) K s → Inv P T n w0 l0 s a w loc → wpOps P ops Q (List.range' j m) a w := by
  intro m
  induction m with
  | zero =>
    intro j s a w loc hj hk h
    have : ops.toList.drop j = [] := List.drop_eq_nil_of_le (by simp; omega)
    rw [this] at hk
    exact hQ _ _ _ _ hk h
  | succ m ih =>
    intro j s a w loc hj hk h
    have hlt : j < ops.size := by omega
    have ho : ops[j]? = some ops[j] := by simp [hlt]
    have hdrop : ops.toList.drop j = ops[j] :: ops.toList.drop (j + 1) := by
      rw [List.drop_eq_getElem_cons (by simpa using hlt)]
      simp
    rw [hdrop] at hk
    simp only [opsWp, effK_eq, eff_junk] at hk
    simp only [List.range'_succ, wpOps, ho]
    rcases guard_yes h.tmp hk with ⟨hw, hk⟩ | ⟨hw, hk⟩
    · rw [if_pos hw]
      left
      refine Done.wp (op_sound h (dst_lt hd ho) hk) ?_
      rintro y w' ⟨s', loc', h1, h2⟩
      exact ih (j + 1) s' _ w' loc' (by omega) h1 h2
    · rw [if_neg (by simp [hw])]
      exact ih (j + 1) _ _ w loc (by omega) hk (h.skip _ (dst_lt hd ho))

/-! ### A region whose order is open -/

theorem ev_congr {s s' : St} {x : Operand} (h : ∀ t, x = .tmp t → s.t t = s'.t t) : s.ev x = s'.ev x := by
  cases x with
  | tmp t => exact h t rfl
  | const v => cases v <;> rfl
  | _ => rfl

theorem map_ev_congr {s s' : St} {l : List Operand} (h : ∀ x ∈ l, s.ev x = s'.ev x) : l.map s.ev = l.map s'.ev := List.map_congr_left h

theorem contOf_congr {s s' : St} (h : s.m = s'.m) (x : D) : contOf s x = contOf s' x := by
  cases x <;> simp only [contOf, h]
theorem optI_congr {s s' : St} {o : Option Operand} (h : ∀ x, o = some x → s.ev x = s'.ev x) : optI s o = optI s' o := by
  cases o with
  | none => rfl
  | some x => simp only [optI, h x rfl]

theorem quietK_congr {s s' : St} {o : Oper} {K : Eff → Prop} (hev : ∀ x ∈ o.op.operands.toList, s.ev x = s'.ev x) (hm : s.m = s'.m) (hc : ∀ i, o.dst = some i → s.c i = s'.c i) (h : quietK P T o s K) : quietK P T o s' K := by
  have hnew : ∀ (dm : Id → D) (c : D), newK s o.dst dm c K → newK s' o.dst dm c K := by
    intro dm c h
    unfold newK at h ⊢
    cases hd : o.dst with
    | none => rw [hd] at h; exact h
    | some i => rw [hd] at h; simp only at h ⊢; rw [← hc i hd]; exact h
  cases hop : o.op <;> rw [hop] at hev <;> simp only [quietK, hop] at h ⊢
  case move x => rw [← hev x (by simp [Op.operands])]; exact h
  case assign x => rw [← hev x (by simp [Op.operands])]; exact h
  case pick c x y =>
    rw [← hev c (by simp [Op.operands]), ← hev x (by simp [Op.operands]), ← hev y (by simp [Op.operands])]; exact h
  case alloc t => split at h <;> first | exact hnew _ _ h | exact h.elim
  case box t x =>
    rw [← hev x (by simp [Op.operands])]
    rw [force_eq] at h ⊢
    cases hx : s.ev x <;> rw [hx] at h <;> first | exact h.elim | exact hnew _ _ h
  case build t parts =>
    have hp : evParts s parts = evParts s' parts := by
      unfold evParts
      apply List.map_congr_left
      intro p hp
      rw [hev p.2 (by simp [Op.operands]; exact ⟨p.1, by simpa using hp⟩)]
    rw [← hp]; exact h
  case buildSlice t len parts =>
    have hp : evParts s parts = evParts s' parts := by
      unfold evParts
      apply List.map_congr_left
      intro p hp
      rw [hev p.2 (by simp [Op.operands]; exact ⟨p.1, by simpa using hp⟩)]
    rw [← hp]
    split at h
    · split at h
      · split at h
        · split at h
          · rw [asrt_iff] at h ⊢; exact ⟨h.1, hnew _ _ h.2⟩
          · exact h.elim
        · exact h.elim
      · exact h.elim
    · exact h.elim
  case load t x => rw [← hev x (by simp [Op.operands]), ← hm]; exact h
  case binOp op t x y t' => rw [← hev x (by simp [Op.operands]), ← hev y (by simp [Op.operands])]; exact h
  case unOp op t x => rw [← hev x (by simp [Op.operands])]; exact h
  case convert t u x =>
    rw [← hev x (by simp [Op.operands])]
    unfold convK at h ⊢
    simp only [← contOf_congr hm]
    exact h
  case makeFunc fn first caps =>
    rw [← map_ev_congr (l := first.toList) (fun x hx => hev x (by simp [Op.operands]; left; simpa using hx)), ← map_ev_congr (l := caps.toList) (fun x hx => hev x (by simp [Op.operands]; right; simpa using hx))]
    exact h
  case makeSlice t x y =>
    rw [← hev x (by simp [Op.operands]), ← hev y (by simp [Op.operands])]
    split at h
    · split at h
      · rw [asrt_iff] at h ⊢
        exact ⟨h.1, h.2.1, hnew _ _ h.2.2⟩
      · exact h.elim
    · exact h.elim
  case slice t x lo hi mx =>
    rw [← hev x (by simp [Op.operands])]
    unfold sliceK at h ⊢
    rw [← optI_congr (s := s) (s' := s') (o := lo) (fun z hz => hev z (by simp [Op.operands, hz])), ← optI_congr (s := s) (s' := s') (o := hi) (fun z hz => hev z (by simp [Op.operands, hz])), ← hm]
    exact h
  case fieldAddr t x f => rw [← hev x (by simp [Op.operands])]; exact h
  case field t x f => rw [← hev x (by simp [Op.operands])]; exact h
  case indexAddr t x i => rw [← hev x (by simp [Op.operands]), ← hev i (by simp [Op.operands])]; exact h
  case index t x i => rw [← hev x (by simp [Op.operands]), ← hev i (by simp [Op.operands])]; exact h
  case extract x i => rw [← hev x (by simp [Op.operands])]; exact h
  case nilCheck x => rw [← hev x (by simp [Op.operands])]; exact h
  case call c =>
    obtain ⟨callee, args, ts⟩ := c
    have hargs : ∀ x ∈ args.toList, s.ev x = s'.ev x := fun x hx => hev x (by simp [Op.operands, Call.operands]; right; simpa using hx)
    cases callee with
    | builtin b => simp only at h ⊢; rw [← map_ev_congr hargs]; exact h
    | value f =>
      simp only at h ⊢
      rw [← map_ev_congr hargs, ← hev f (by simp [Op.operands, Call.operands])]
      unfold callK at h ⊢
      split at h
      · rename_i g first caps hf
        obtain ⟨dargs, res, h1, h2, h3⟩ := h
        refine ⟨dargs, res, by rw [← hm]; exact h1, h2, ?_⟩
        cases hd : o.dst with
        | none => rw [hd] at h3; exact h3
        | some i => rw [hd] at h3; simp only at h3 ⊢; rw [← hc i hd]; exact h3
      · exact h.elim
    | invoke r m => exact h

/-- What a quiet operation leaves can be named. -/
theorem quietK_pick {s : St} {o : Oper} {K : Eff → Prop} (h : quietK P T o s K) : ∃ e, K e ∧ quietK P T o s (fun e' => e' = e) := by
  have hnew : ∀ (dm : Id → D) (c : D), newK s o.dst dm c K → ∃ e, K e ∧ newK s o.dst dm c (fun e' => e' = e) := by
    intro dm c h
    unfold newK at h
    cases hd : o.dst with
    | none => rw [hd] at h; exact h.elim
    | some i => rw [hd] at h; exact ⟨_, h, by simp [newK]⟩
  have hforce : ∀ (d : D) (F : D → Eff), force d (fun d => K (F d)) → ∃ e, K e ∧ force d (fun d => F d = e) := by
    intro d F h
    rw [force_eq] at h
    exact ⟨_, h, by rw [force_eq]⟩
  have hget : ∀ (c : D) (off : Nat) (F : D → Eff), getK c off (fun d => K (F d)) → ∃ e, K e ∧ getK c off (fun d => F d = e) := by
    intro c off F h
    unfold getK at h ⊢
    split at h
    · rw [optK_iff] at h
      obtain ⟨x, hx, h⟩ := h
      exact ⟨_, h, optK_of hx rfl⟩
    · rw [optK_iff] at h
      obtain ⟨x, hx, h⟩ := h
      obtain ⟨e, h1, h2⟩ := hforce _ _ h
      exact ⟨e, h1, optK_of hx h2⟩
    · exact h.elim
  have hsub : ∀ (c : D) (off m : Nat) (F : D → Eff), subK c off m (fun d => K (F d)) → ∃ e, K e ∧ subK c off m (fun d => F d = e) := by
    intro c off m F h
    unfold subK at h ⊢
    split at h
    · exact ⟨_, h.2, h.1, rfl⟩
    · exact ⟨_, h.2, h.1, rfl⟩
    · exact h.elim
  have hload : ∀ (t : TypeId) (c : D) (off : Nat) (F : D → Eff), loadK T t c off (fun d => K (F d)) → ∃ e, K e ∧ loadK T t c off (fun d => F d = e) := by
    intro t c off F h
    unfold loadK at h ⊢
    split at h
    · split at h
      · exact hsub _ _ _ _ h
      · exact hget _ _ _ h
    · exact h.elim
  cases hop : o.op <;> simp only [quietK, hop] at h ⊢
  case move x => exact hforce _ _ h
  case assign x => exact hforce _ _ h
  case pick c x y =>
    split at h
    · split at h
      · exact hforce _ _ h
      · exact hforce _ _ h
    · exact h.elim
  case alloc t => split at h <;> first | exact hnew _ _ h | exact h.elim
  case box t x =>
    simp only [force_eq] at h ⊢
    cases hx : s.ev x <;> rw [hx] at h <;> first | exact h.elim | exact hnew _ _ h
  case build t parts =>
    split at h
    · split at h
      · split at h
        · split at h
          · exact ⟨_, h, rfl⟩
          · exact h.elim
        · exact h.elim
      · exact h.elim
    · split at h
      · split at h
        · exact ⟨_, h, rfl⟩
        · exact h.elim
      · exact h.elim
    · exact h.elim
  case buildSlice t len parts =>
    split at h
    · split at h
      · split at h
        · split at h
          · rw [asrt_iff] at h
            obtain ⟨e, h1, h2⟩ := hnew _ _ h.2
            exact ⟨e, h1, asrt_iff.2 ⟨h.1, h2⟩⟩
          · exact h.elim
        · exact h.elim
      · exact h.elim
    · exact h.elim
  case load t x =>
    split at h
    · split at h
      · exact hload _ _ _ _ h
      · exact h.elim
    · exact hload _ _ _ _ h
    · exact h.elim
  case binOp op t x y t' =>
    unfold binK at h ⊢
    split at h
    · split at h
      · exact ⟨_, h.2, h.1, rfl⟩
      · exact ⟨_, h.2, h.1, rfl⟩
      · simp only [asrt_iff] at h ⊢
        obtain ⟨h0, h⟩ := h
        split at h
        · exact ⟨_, h, h0, rfl⟩
        · exact ⟨_, h, h0, rfl⟩
        · exact ⟨_, h, h0, rfl⟩
        · exact ⟨_, h.2, h0, h.1, rfl⟩
        · exact ⟨_, h.2, h0, h.1, rfl⟩
        · exact ⟨_, h, h0, rfl⟩
        · exact ⟨_, h, h0, rfl⟩
        · exact ⟨_, h, h0, rfl⟩
        · exact ⟨_, h, h0, rfl⟩
        · split at h
          · exact ⟨_, h, h0, rfl⟩
          · exact h.elim
    · split at h
      · exact ⟨_, h.2, h.1, rfl⟩
      · split at h
        · exact ⟨_, h, rfl⟩
        · exact h.elim
    · split at h
      · obtain ⟨r, h1, h2⟩ := h; exact ⟨_, h2, r, h1, rfl⟩
      · obtain ⟨r, h1, h2⟩ := h; exact ⟨_, h2, r, h1, rfl⟩
      · exact h.elim
    · split at h
      · exact ⟨_, h, rfl⟩
      · exact ⟨_, h, rfl⟩
      · exact h.elim
    · split at h
      · exact ⟨_, h, rfl⟩
      · exact h.elim
    · split at h
      · exact ⟨_, h.2, h.1, rfl⟩
      · exact h.elim
    · exact h.elim
  case unOp op t x =>
    unfold unK at h ⊢
    split at h <;> first | exact ⟨_, h, rfl⟩ | exact h.elim
  case convert t u x =>
    unfold convK at h ⊢
    split at h
    · exact ⟨_, h, rfl⟩
    · exact ⟨_, h, rfl⟩
    · exact ⟨_, h, rfl⟩
    · split at h
      · exact ⟨_, h, rfl⟩
      · exact h.elim
    · split at h
      · obtain ⟨b, h1, h2⟩ := h; exact ⟨_, h2, b, h1, rfl⟩
      · exact h.elim
    · exact h.elim
  case makeFunc fn first caps => exact ⟨_, h, rfl⟩
  case makeSlice t x y =>
    split at h
    · split at h
      · rw [asrt_iff] at h
        obtain ⟨e, g1, g2⟩ := hnew _ _ h.2.2
        exact ⟨e, g1, asrt_iff.2 ⟨h.1, h.2.1, g2⟩⟩
      · exact h.elim
    · exact h.elim
  case slice t x lo hi mx =>
    unfold sliceK at h ⊢
    split at h
    · exact ⟨_, h.2, h.1, rfl⟩
    · split at h
      · rw [asrt_iff] at h
        exact ⟨_, h.2.2, asrt_iff.2 ⟨h.1, h.2.1, rfl⟩⟩
      · exact h.elim
    · split at h
      · rw [asrt_iff] at h
        obtain ⟨e, g1, g2⟩ := hsub _ _ _ _ h.2.2
        exact ⟨e, g1, asrt_iff.2 ⟨h.1, h.2.1, g2⟩⟩
      · exact h.elim
    · split at h
      · exact ⟨_, h.2, h.1, rfl⟩
      · exact h.elim
    · exact h.elim
  case fieldAddr t x f =>
    unfold fieldAddrK at h ⊢
    split at h
    · split at h
      · split at h
        · split at h
          · exact h.elim
          · split at h <;> first | exact ⟨_, h, rfl⟩ | exact h.elim
        · exact h.elim
      · exact h.elim
    · exact h.elim
  case field t x f =>
    unfold fieldK partK at h ⊢
    split at h
    · split at h
      · exact hload _ _ _ _ h
      · exact h.elim
    · exact h.elim
  case indexAddr t x i =>
    unfold indexAddrK at h ⊢
    split at h
    · split at h
      · split at h
        · obtain ⟨h0, h⟩ := h
          split at h <;> first | exact ⟨_, h, h0, rfl⟩ | exact h.elim
        · exact h.elim
      · split at h
        · split at h
          · rw [asrt_iff] at h; exact ⟨_, h.2.2, asrt_iff.2 ⟨h.1, h.2.1, rfl⟩⟩
          · rw [asrt_iff] at h; exact ⟨_, h.2.2, asrt_iff.2 ⟨h.1, h.2.1, rfl⟩⟩
          · exact h.elim
        · exact h.elim
      · exact h.elim
    · exact h.elim
  case index t x i =>
    unfold indexK partK at h ⊢
    split at h
    · split at h
      · split at h
        · obtain ⟨e, g1, g2⟩ := hload _ _ _ _ h.2
          exact ⟨e, g1, h.1, g2⟩
        · exact h.elim
      · split at h
        · exact ⟨_, h.2, h.1, rfl⟩
        · exact h.elim
      · exact h.elim
    · exact h.elim
  case extract x i =>
    split at h
    · split at h
      · exact hforce _ _ h
      · exact h.elim
    · exact h.elim
  case nilCheck x => split at h <;> first | exact ⟨_, h, rfl⟩ | exact h.elim
  case call c =>
    obtain ⟨callee, args, ts⟩ := c
    cases callee with
    | builtin b =>
      simp only at h ⊢
      unfold builtinK at h ⊢
      split at h
      · split at h
        · exact ⟨_, h, rfl⟩
        · exact ⟨_, h, rfl⟩
        · split at h
          · exact ⟨_, h, rfl⟩
          · exact h.elim
        · exact h.elim
      · exact ⟨_, h, rfl⟩
      · exact ⟨_, h, rfl⟩
      · exact h.elim
    | value f =>
      simp only at h ⊢
      unfold callK at h ⊢
      split at h
      · obtain ⟨dargs, res, h1, h2, h3⟩ := h
        cases hd : o.dst with
        | none => rw [hd] at h3; exact ⟨_, h3, dargs, res, h1, h2, rfl⟩
        | some i => rw [hd] at h3; exact ⟨_, h3, dargs, res, h1, h2, rfl⟩
      · exact h.elim
    | invoke r m => exact h.elim

end
end Go.V
/- The abstract states are sound, tenth part: a region whose order is open, in whatever order. -/
set_option linter.unusedVariables false
set_option linter.unusedSimpArgs false
namespace Go.V

def dstAt (ops : Array Oper) (i : Nat) : Option Tmp := (ops[i]?).bind (·.dst)
def owner (ops : Array Oper) (k : Nat) (L : Nat → Bool) (x : Nat) : Option Nat := (List.range k).find? fun i => L i && (dstAt ops i == some x)
def effD : Eff → D
  | .val d => d
  | .new d _ => d
/-- The state behind some of the first k operations. -/
def stL (s0 : St) (ops : Array Oper) (k : Nat) (E : Nat → Eff) (L : Nat → Bool) : St where
  t x := match owner ops k L x with | some i => effD (E i) | none => s0.t x
  m id := match owner ops k L id.1 with
    | some i => (match E i with | .new _ f => if id.2.1 = s0.c id.1 then f id.2.2 else s0.m id | .val _ => s0.m id)
    | none => s0.m id
  c x := match owner ops k L x with
    | some i => (match E i with | .new _ _ => s0.c x + 1 | .val _ => s0.c x)
    | none => s0.c x

def Uniq (ops : Array Oper) (k : Nat) : Prop := ∀ i j d, i < k → j < k → i ≠ j → dstAt ops i = some d → dstAt ops j ≠ some d

section
variable {P : Program} {T : Types} {ops : Array Oper} {k : Nat} {s0 : St} {E E' : Nat → Eff} {L L' : Nat → Bool}

theorem blt_eq (a b : Nat) : Nat.blt a b = decide (a < b) := by
  unfold Nat.blt
  rw [Bool.eq_iff_iff, decide_eq_true_iff, Nat.ble_eq]
  exact Iff.rfl

theorem owner_some {x i : Nat} (hu : Uniq ops k) : owner ops k L x = some i ↔ i < k ∧ L i = true ∧ dstAt ops i = some x := by
  unfold owner
  constructor
  · intro h
    have h1 := List.find?_some h
    have h2 := List.mem_of_find?_eq_some h
    simp only [Bool.and_eq_true, beq_iff_eq] at h1
    exact ⟨by simpa using h2, h1.1, h1.2⟩
  · rintro ⟨h1, h2, h3⟩
    cases hf : (List.range k).find? fun i => L i && (dstAt ops i == some x) with
    | none =>
      have := List.find?_eq_none.1 hf i (by simpa using h1)
      simp [h2, h3] at this
    | some j =>
      have h4 := List.find?_some hf
      have h5 := List.mem_of_find?_eq_some hf
      simp only [Bool.and_eq_true, beq_iff_eq] at h4
      by_cases he : j = i
      · rw [he]
      · exact absurd h3 (hu j i x (by simpa using h5) h1 he h4.2)

theorem owner_none {x : Nat} : owner ops k L x = none ↔ ∀ i, i < k → L i = true → dstAt ops i ≠ some x := by
  unfold owner
  rw [List.find?_eq_none]
  constructor
  · intro h i h1 h2 h3
    have := h i (by simpa using h1)
    simp [h2, h3] at this
  · intro h i h1
    simp only [Bool.and_eq_true, beq_iff_eq, not_and]
    intro h2
    exact h i (by simpa using h1) h2

theorem owner_congr {x : Nat} (h : ∀ i, i < k → dstAt ops i = some x → L i = L' i) : owner ops k L x = owner ops k L' x := by
  unfold owner
  have : ∀ (l : List Nat), (∀ i ∈ l, i < k) → l.find? (fun i => L i && (dstAt ops i == some x)) = l.find? (fun i => L' i && (dstAt ops i == some x)) := by
    intro l hl
    induction l with
    | nil => rfl
    | cons i l ih =>
      simp only [List.find?_cons]
      have e : (L i && (dstAt ops i == some x)) = (L' i && (dstAt ops i == some x)) := by
        by_cases hd : dstAt ops i = some x
        · rw [h i (hl i (by simp)) hd]
        · have : (dstAt ops i == some x) = false := by simpa using hd
          simp [this]
      rw [e, ih (fun j hj => hl j (by simp [hj]))]
  exact this _ (fun i hi => by simpa using hi)

theorem stL_congr (hu : Uniq ops k) (h : ∀ i, i < k → L i = true → E i = E' i) : stL s0 ops k E L = stL s0 ops k E' L := by
  unfold stL
  congr 1
  · funext x
    cases ho : owner ops k L x with
    | none => rfl
    | some i => obtain ⟨h1, h2, _⟩ := (owner_some hu).1 ho; simp only [h i h1 h2]
  · funext id
    cases ho : owner ops k L id.1 with
    | none => rfl
    | some i => obtain ⟨h1, h2, _⟩ := (owner_some hu).1 ho; simp only [h i h1 h2]
  · funext x
    cases ho : owner ops k L x with
    | none => rfl
    | some i => obtain ⟨h1, h2, _⟩ := (owner_some hu).1 ho; simp only [h i h1 h2]

theorem stL_congrL (h : ∀ i, i < k → L i = L' i) : stL s0 ops k E L = stL s0 ops k E L' := by
  have e : ∀ x, owner ops k L x = owner ops k L' x := fun x => owner_congr fun i hi _ => h i hi
  unfold stL
  simp only [e]

theorem stL_insert (hu : Uniq ops k) {j : Nat} (hj : j < k) (hL : L j = false) (hL' : ∀ i, L' i = (i == j || L i)) : stL s0 ops k E L' = (stL s0 ops k E L).eff (dstAt ops j) (E j) := by
  cases hd : dstAt ops j with
  | none =>
    have e : ∀ x, owner ops k L' x = owner ops k L x := fun x => owner_congr fun i hi hx => by
      rw [hL']
      have : (i == j) = false := by
        simp only [beq_eq_false_iff_ne]
        rintro rfl
        rw [hd] at hx; cases hx
      simp [this]
    simp only [St.eff]
    unfold stL
    simp only [e]
  | some d =>
    have e1 : owner ops k L' d = some j := (owner_some hu).2 ⟨hj, by rw [hL']; simp, hd⟩
    have e2 : owner ops k L d = none := owner_none.2 fun i hi hl hx => by
      by_cases he : i = j
      · rw [he, hL] at hl; cases hl
      · exact hu i j d hi hj he hx hd
    have e3 : ∀ x, x ≠ d → owner ops k L' x = owner ops k L x := fun x hx => owner_congr fun i hi hdi => by
      rw [hL']
      have : (i == j) = false := by
        simp only [beq_eq_false_iff_ne]
        rintro rfl
        rw [hd] at hdi; cases hdi; exact hx rfl
      simp [this]
    have hc : (stL s0 ops k E L).c d = s0.c d := by simp only [stL, e2]
    have ht : (stL s0 ops k E L').t = upd (stL s0 ops k E L).t d (effD (E j)) := by
      funext x
      rw [upd_eq]
      by_cases hx : x = d
      · subst hx; simp only [stL, e1, if_true]
      · simp only [stL, e3 x hx, hx, if_false]
    cases hE : E j with
    | val v =>
      simp only [St.eff]
      have hm : (stL s0 ops k E L').m = (stL s0 ops k E L).m := by
        funext id
        by_cases hx : id.1 = d
        · simp only [stL, hx, e1, e2, hE]
        · simp only [stL, e3 _ hx]
      have hcc : (stL s0 ops k E L').c = (stL s0 ops k E L).c := by
        funext x
        by_cases hx : x = d
        · subst hx; simp only [stL, e1, e2, hE]
        · simp only [stL, e3 _ hx]
      rw [hE] at ht
      simp only [effD] at ht
      rw [← ht, ← hm, ← hcc]
    | new v f =>
      simp only [St.eff]
      have hm : (stL s0 ops k E L').m = updR (stL s0 ops k E L).m d ((stL s0 ops k E L).c d) f := by
        funext id
        rw [updR_eq, hc]
        by_cases hx : id.1 = d
        · simp only [stL, hx, e1, e2, hE, true_and]
        · simp only [stL, e3 _ hx, hx, false_and, if_false]
      have hcc : (stL s0 ops k E L').c = upd (stL s0 ops k E L).c d ((stL s0 ops k E L).c d + 1) := by
        funext x
        rw [upd_eq, hc]
        by_cases hx : x = d
        · subst hx; simp only [stL, e1, hE, if_true]
        · simp only [stL, e3 _ hx, hx, if_false]
      rw [hE] at ht
      simp only [effD] at ht
      rw [← ht, ← hm, ← hcc]

theorem guard_parts {ops : Array Oper} {o : Oper} {s : St} {yes no : Prop} (h : guardK ops o s yes no) : (guardK ops o s True False ∧ yes) ∨ (guardK ops o s False True ∧ no) := by
  unfold guardK at h ⊢
  split at h
  · exact .inl ⟨trivial, h⟩
  · split at h
    · rename_i b hb
      split at h
      · exact .inl ⟨trivial, h⟩
      · exact .inl ⟨trivial, h⟩
      · exact .inr ⟨trivial, h⟩
    · exact .inr ⟨trivial, h⟩
    · exact h.elim
  · exact h.elim

theorem guard_join {ops : Array Oper} {o : Oper} {s : St} {yes no : Prop} (h : (guardK ops o s True False ∧ yes) ∨ (guardK ops o s False True ∧ no)) : guardK ops o s yes no := by
  unfold guardK at h ⊢
  split
  · rename_i hg
    simp only [hg] at h
    rcases h with h | h
    · exact h.2
    · exact h.1.elim
  · rename_i g want hg
    simp only [hg] at h
    split
    · rename_i b hb
      simp only [hb] at h
      cases b <;> cases want <;> simp_all
    · rename_i hb
      simp only [hb] at h
      rcases h with h | h
      · exact h.1.elim
      · exact h.2
    · rename_i hb
      rcases h with h | h
      · have := h.1; split at this <;> simp_all
      · have := h.1; split at this <;> simp_all
  · rename_i hg
    simp only [hg] at h
    rcases h with h | h <;> exact h.1.elim

theorem guardK_congr {ops : Array Oper} {o : Oper} {s s' : St} {yes no : Prop} (h : ∀ x ∈ o.looksAt ops, s.t x = s'.t x) (hg : guardK ops o s yes no) : guardK ops o s' yes no := by
  unfold guardK guardOf at hg ⊢
  cases hgd : o.guard with
  | none => rw [hgd] at hg; exact hg
  | some jw =>
    obtain ⟨j, want⟩ := jw
    rw [hgd] at hg
    simp only at hg ⊢
    cases hq : (ops[j]?).bind (·.dst) with
    | none => rw [hq] at hg; exact hg
    | some g =>
      rw [hq] at hg
      simp only at hg ⊢
      have : g ∈ o.looksAt ops := by
        unfold Oper.looksAt
        rw [hgd]
        simp [hq]
      rw [← h g this]
      exact hg

/-- What the operation i leaves, if it comes behind those before it in the text. -/
def StepOk (P : Program) (T : Types) (ops : Array Oper) (bs : Array Nat) (k : Nat) (s0 : St) (E : Nat → Eff) (i : Nat) : Prop :=
  ∃ o, ops[i]? = some o ∧
    ((guardK ops o (stL s0 ops k E fun x => Nat.blt x i) True False ∧ quietK P T o ((stL s0 ops k E fun x => Nat.blt x i).hide (unseen ops bs k i) s0.c) (fun e => e = E i)) ∨
     (guardK ops o (stL s0 ops k E fun x => Nat.blt x i) False True ∧ E i = .val (.tup [])))

theorem draw_steps {bs : Array Nat} (hu : Uniq ops k) (hk : k ≤ ops.size) {K : St → Prop} : ∀ (m j : Nat) (E0 : Nat → Eff), j + m = k →
    drawWp P T ops bs k s0.c j (ops.toList.drop j) K (stL s0 ops k E0 fun x => Nat.blt x j) →
    ∃ E, (∀ i, i < j → E i = E0 i) ∧ (∀ i, j ≤ i → i < k → StepOk P T ops bs k s0 E i) ∧ opsWp P T ops (ops.toList.drop k) K (stL s0 ops k E fun x => Nat.blt x k)
  | 0, j, E0, hj, h => by
    have hjk : j = k := by omega
    subst hjk
    refine ⟨E0, fun _ _ => rfl, fun i h1 h2 => by omega, ?_⟩
    cases hd : ops.toList.drop j with
    | nil => rw [hd] at h; exact h
    | cons o r =>
      rw [hd] at h
      simpa [drawWp, blt_eq] using h
  | m + 1, j, E0, hj, h => by
    have hlt : j < ops.size := by omega
    have hdrop : ops.toList.drop j = ops[j] :: ops.toList.drop (j + 1) := by
      rw [List.drop_eq_getElem_cons (by simpa using hlt)]
      simp
    have ho : ops[j]? = some ops[j] := by simp [hlt]
    have hdst : dstAt ops j = ops[j].dst := by simp [dstAt, ho]
    rw [hdrop] at h
    have hb : Nat.blt j k = true := by rw [blt_eq]; simp; omega
    simp only [drawWp, hb, cond_true, effK_eq, eff_junk] at h
    have next : ∀ e : Eff, drawWp P T ops bs k s0.c (j + 1) (ops.toList.drop (j + 1)) K ((stL s0 ops k E0 fun x => Nat.blt x j).eff ops[j].dst e) →
        ∃ E, E j = e ∧ (∀ i, i < j → E i = E0 i) ∧ (∀ i, j + 1 ≤ i → i < k → StepOk P T ops bs k s0 E i) ∧ opsWp P T ops (ops.toList.drop k) K (stL s0 ops k E fun x => Nat.blt x k) := by
      intro e he
      have hst : (stL s0 ops k E0 fun x => Nat.blt x j).eff ops[j].dst e = stL s0 ops k (fun i => if i = j then e else E0 i) fun x => Nat.blt x (j + 1) := by
        rw [stL_insert (L := fun x => Nat.blt x j) (L' := fun x => Nat.blt x (j + 1)) (E := fun i => if i = j then e else E0 i) (j := j) hu (by omega) (by simp [blt_eq]) (fun i => by
          show Nat.blt i (j + 1) = (i == j || Nat.blt i j)
          rw [blt_eq, blt_eq, Bool.eq_iff_iff]
          simp only [decide_eq_true_iff, Bool.or_eq_true, beq_iff_eq]
          omega)]
        rw [hdst, if_pos rfl]
        congr 1
        exact stL_congr hu fun i _ hi => by
          have : i < j := by simpa [blt_eq] using hi
          rw [if_neg (by omega)]
      rw [hst] at he
      obtain ⟨E, h1, h2, h3⟩ := draw_steps hu hk m (j + 1) _ (by omega) he
      refine ⟨E, by rw [h1 j (by omega)]; simp, fun i hi => by rw [h1 i (by omega), if_neg (by omega)], h2, h3⟩
    rcases guard_parts h with ⟨hg, hq⟩ | ⟨hg, hq⟩
    · obtain ⟨e, he, hpick⟩ := quietK_pick hq
      obtain ⟨E, h1, h2, h3, h4⟩ := next e he
      have hsame : stL s0 ops k E (fun x => Nat.blt x j) = stL s0 ops k E0 fun x => Nat.blt x j := stL_congr hu fun i _ hi => h2 i (by simpa [blt_eq] using hi)
      refine ⟨E, h2, fun i hi1 hi2 => ?_, h4⟩
      by_cases hij : i = j
      · subst hij
        refine ⟨ops[i], ho, .inl ⟨by rw [hsame]; exact hg, ?_⟩⟩
        rw [hsame, h1]
        exact hpick
      · exact h3 i (by omega) hi2
    · have hput : (stL s0 ops k E0 fun x => Nat.blt x j).put ops[j].dst (.tup []) = (stL s0 ops k E0 fun x => Nat.blt x j).eff ops[j].dst (.val (.tup [])) := by
        cases ops[j].dst <;> rfl
      rw [hput] at hq
      obtain ⟨E, h1, h2, h3, h4⟩ := next _ hq
      have hsame : stL s0 ops k E (fun x => Nat.blt x j) = stL s0 ops k E0 fun x => Nat.blt x j := stL_congr hu fun i _ hi => h2 i (by simpa [blt_eq] using hi)
      refine ⟨E, h2, fun i hi1 hi2 => ?_, h4⟩
      by_cases hij : i = j
      · subst hij
        exact ⟨ops[i], ho, .inr ⟨by rw [hsame]; exact hg, h1⟩⟩
      · exact h3 i (by omega) hi2

/-- The i-th operation may come behind the later j-th as well. -/
structure LateOk (ops : Array Oper) (k j i : Nat) : Prop where
  lt : i < k
  ex : ∃ o p d, ops[j]? = some o ∧ ops[i]? = some p ∧ isStore o = true ∧ isPureOp p = true ∧ p.dst = some d ∧ d ∉ o.looksAt ops ∧ d ∉ p.looksAt ops ∧ o.dst ≠ some d ∧ ∀ d', o.dst = some d' → d' ∉ p.looksAt ops
/-- What 'drawOk' says. -/
structure DrawOk (ops : Array Oper) (bs : Array Nat) (k : Nat) : Prop where
  le : k ≤ ops.size
  cert : ∀ j i, j < ops.size → i < ops.size → (bs.getD j 0).testBit i = true → i < j ∧ (i ∈ depsAt ops j ∨ ∃ e ∈ depsAt ops j, e < j ∧ (bs.getD e 0).testBit i = true)
  deps : ∀ j, j < ops.size → ∀ e ∈ depsAt ops j, e < j
  uniq : Uniq ops k
  sees : ∀ j o i d, j < k → ops[j]? = some o → i < k → i ≠ j → dstAt ops i = some d → d ∈ o.looksAt ops → (bs.getD j 0).testBit i = true
  fins : ∀ j i, k ≤ j → j < ops.size → i < j → (bs.getD j 0).testBit i = true ∨ LateOk ops k j i

theorem drawOk_spec {bs : Array Nat} (h : drawOk ops bs k = true) : DrawOk ops bs k := by
  unfold drawOk at h
  simp only [Bool.and_eq_true] at h
  obtain ⟨⟨h1, h2⟩, h3⟩ := h
  have hle : k ≤ ops.size := Nat.le_of_ble_eq_true h2
  have row : ∀ j, j < ops.size → ∃ o, ops[j]? = some o ∧ (depsOf o).all (fun e => Nat.blt e j) = true ∧
      (if j < k then ∀ i, i < k → i ≠ j → ∃ p, ops[i]? = some p ∧ ∀ d, p.dst = some d → o.dst ≠ some d ∧ (d ∈ o.looksAt ops → (bs.getD j 0).testBit i = true)
       else ∀ i, i < j → (bs.getD j 0).testBit i = true ∨ LateOk ops k j i) := by
    intro j hj
    have := List.all_eq_true.1 h3 j (by simpa using hj)
    split at this
    · cases this
    · rename_i o ho
      simp only [Bool.and_eq_true] at this
      obtain ⟨g1, g2⟩ := this
      refine ⟨o, ho, g1, ?_⟩
      rw [blt_eq] at g2
      split
      · rename_i hjk
        simp only [hjk, decide_true, cond_true, List.all_eq_true] at g2
        intro i hi hne
        have := g2 i (by simpa using hi)
        have hne' : (i == j) = false := by simpa using hne
        rw [hne', Bool.false_or] at this
        split at this
        · cases this
        · rename_i p hp
          refine ⟨p, hp, fun d hd => ?_⟩
          rw [hd] at this
          simp only [Bool.and_eq_true, bne_iff_ne, ne_eq, Bool.or_eq_true, Bool.not_eq_true'] at this
          refine ⟨this.1, fun hm => ?_⟩
          rcases this.2 with h | h
          · rw [List.contains_iff_mem.2 hm] at h; cases h
          · exact h
      · rename_i hjk
        simp only [hjk, decide_false, cond_false, List.all_eq_true] at g2
        intro i hi
        have := g2 i (by simpa using hi)
        rw [Bool.or_eq_true] at this
        rcases this with h | h
        · exact .inl h
        · right
          rw [Bool.and_eq_true] at h
          obtain ⟨q1, q2⟩ := h
          split at q2
          · rename_i p hp
            unfold lateOk at q2
            simp only [Bool.and_eq_true] at q2
            obtain ⟨⟨q3, q4⟩, q5⟩ := q2
            split at q5
            · cases q5
            · rename_i d hd
              simp only [Bool.and_eq_true, Bool.not_eq_true', bne_iff_ne, ne_eq] at q5
              obtain ⟨⟨⟨q6, q7⟩, q8⟩, q9⟩ := q5
              refine ⟨by simpa [blt_eq] using q1, o, p, d, ho, hp, q3, q4, hd, fun hm => ?_, fun hm => ?_, q8, fun d' hd' hm => ?_⟩
              · rw [List.contains_iff_mem.2 hm] at q6; cases q6
              · rw [List.contains_iff_mem.2 hm] at q7; cases q7
              · rw [hd'] at q9
                simp only [Bool.not_eq_true'] at q9
                rw [List.contains_iff_mem.2 hm] at q9; cases q9
          · cases q2
  refine ⟨hle, ?_, ?_, ?_, ?_, ?_⟩
  · intro j i hj hi hb
    unfold certOk at h1
    have := List.all_eq_true.1 (List.all_eq_true.1 h1 j (by simpa using hj)) i (by simpa using hi)
    simp only [hb, Bool.not_true, Bool.false_or, Bool.and_eq_true, Bool.or_eq_true] at this
    obtain ⟨g1, g2⟩ := this
    refine ⟨by simpa [blt_eq] using g1, ?_⟩
    rcases g2 with g2 | g2
    · exact .inl (List.contains_iff_mem.1 g2)
    · right
      obtain ⟨e, he, hee⟩ := List.any_eq_true.1 g2
      simp only [Bool.and_eq_true] at hee
      exact ⟨e, he, by simpa [blt_eq] using hee.1, hee.2⟩
  · intro j hj e he
    obtain ⟨o, ho, hd, _⟩ := row j hj
    unfold depsAt at he
    rw [ho] at he
    have := List.all_eq_true.1 hd e he
    simpa [blt_eq] using this
  · intro i j d hi hj hne hdi hdj
    obtain ⟨o, ho, _, hr⟩ := row j (by omega)
    rw [if_pos hj] at hr
    obtain ⟨p, hp, hh⟩ := hr i hi hne
    have h4 : p.dst = some d := by simpa [dstAt, hp] using hdi
    have h5 : o.dst = some d := by simpa [dstAt, ho] using hdj
    exact (hh d h4).1 h5
  · intro j o i d hj ho hi hne hdi hm
    obtain ⟨o', ho', _, hr⟩ := row j (by omega)
    rw [ho] at ho'
    cases ho'
    rw [if_pos hj] at hr
    obtain ⟨p, hp, hh⟩ := hr i hi hne
    have h4 : p.dst = some d := by simpa [dstAt, hp] using hdi
    exact (hh d h4).2 hm
  · intro j i hj hjs hi
    obtain ⟨o, ho, _, hr⟩ := row j hjs
    rw [if_neg (by omega)] at hr
    exact hr i hi

/-- The view of operation j is the same behind whatever has been done, as soon as what must come first has been. -/
theorem view_same {bs : Array Nat} (hok : DrawOk ops bs k) {j : Nat} (hj : j < k) {o : Oper} (ho : ops[j]? = some o) (hLj : L j = false) (hL : ∀ i, i < k → (bs.getD j 0).testBit i = true → L i = true) :
    (∀ x ∈ o.looksAt ops, (stL s0 ops k E fun x => Nat.blt x j).t x = (stL s0 ops k E L).t x) ∧
    ((stL s0 ops k E fun x => Nat.blt x j).hide (unseen ops bs k j) s0.c).m = ((stL s0 ops k E L).hide (unseen ops bs k j) s0.c).m ∧
    (∀ d, o.dst = some d → (stL s0 ops k E fun x => Nat.blt x j).c d = (stL s0 ops k E L).c d) := by
  have hjs : j < ops.size := Nat.lt_of_lt_of_le hj hok.le
  have key : ∀ i, i < k → (bs.getD j 0).testBit i = true → Nat.blt i j = L i := by
    intro i hi hb
    rw [hL i hi hb]
    have := (hok.cert j i hjs (Nat.lt_of_lt_of_le hi hok.le) hb).1
    simpa [blt_eq] using this
  refine ⟨fun x hx => ?_, ?_, fun d hd => ?_⟩
  · have : owner ops k (fun x => Nat.blt x j) x = owner ops k L x := owner_congr fun i hi hdi => by
      by_cases hij : i = j
      · subst hij; rw [hLj]; simp [blt_eq]
      · exact key i hi (hok.sees j o i x hj ho hi hij hdi hx)
    simp only [stL, this]
  · funext id
    simp only [St.hide]
    cases hh : (unseen ops bs k j id.1 && Nat.ble (s0.c id.1) id.2.1) with
    | true => rfl
    | false =>
      simp only [cond_false]
      rw [Bool.and_eq_false_iff] at hh
      rcases hh with hh | hh
      · have : owner ops k (fun x => Nat.blt x j) id.1 = owner ops k L id.1 := owner_congr fun i hi hdi => by
          apply key i hi
          unfold unseen at hh
          have := List.any_eq_false.1 hh i (by simpa using hi)
          unfold dstAt at hdi
          cases hoi : ops[i]? with
          | none => rw [hoi] at hdi; cases hdi
          | some p =>
            rw [hoi] at hdi this
            simp only [Option.bind_some] at hdi
            simpa [hdi] using this
        simp only [stL, this]
      · have hne : id.2.1 ≠ s0.c id.1 := by
          intro e
          have h1 : Nat.ble (s0.c id.1) id.2.1 = true := by rw [Nat.ble_eq]; omega
          rw [h1] at hh
          cases hh
        have all : ∀ L0 : Nat → Bool, (stL s0 ops k E L0).m id = s0.m id := by
          intro L0
          simp only [stL]
          cases owner ops k L0 id.1 with
          | none => rfl
          | some i => simp only; cases E i <;> simp [hne]
        rw [all, all]
  · have hdj : dstAt ops j = some d := by simp [dstAt, ho, hd]
    have no : ∀ L0 : Nat → Bool, L0 j = false → owner ops k L0 d = none := by
      intro L0 h0
      refine owner_none.2 fun i hi hl hx => ?_
      by_cases hij : i = j
      · rw [hij, h0] at hl; cases hl
      · exact hok.uniq i j d hi hj hij hx hdj
    simp only [stL, no _ hLj, no (fun x => Nat.blt x j) (by simp [blt_eq])]

end

theorem putK_mono {c : D} {off : Nat} {d : D} {K K' : D → Prop} (hk : ∀ x, K x → K' x) (h : putK c off d K) : putK c off d K' := by
  unfold putK at h ⊢
  split at h
  · exact ⟨h.1, hk _ h.2⟩
  · exact ⟨h.1, hk _ h.2⟩
  · split at h
    · split at h
      · exact ⟨h.1, hk _ h.2⟩
      · exact ⟨h.1, hk _ h.2⟩
      · exact h.elim
      · exact h.elim
      · exact ⟨h.1, hk _ h.2⟩
    · exact h.elim
theorem storeK_mono {T : Types} {t : TypeId} {c : D} {off : Nat} {d : D} {K K' : D → Prop} (hk : ∀ x, K x → K' x) (h : storeK T t c off d K) : storeK T t c off d K' := by
  unfold storeK at h ⊢
  split at h
  · split at h
    · exact ⟨h.1, putK_mono hk h.2⟩
    · exact ⟨h.1, putK_mono hk h.2⟩
    · exact h.elim
    · exact h.elim
    · rw [asrt_iff] at h ⊢
      exact ⟨h.1, putK_mono hk h.2⟩
    · exact h.elim
  · exact h.elim

/-- Some slots forgotten. -/
def St.forget (s : St) (M : Nat → Bool) : St := { s with t := fun x => bif M x then .junk else s.t x }
theorem forget_ev {s : St} {M : Nat → Bool} {x : Operand} (h : ∀ t, x = .tmp t → M t = false) : (s.forget M).ev x = s.ev x := by
  apply ev_congr
  intro t ht
  simp [St.forget, h t ht]
theorem forget_put {s : St} {M : Nat → Bool} {dst : Option Tmp} {d : D} (hd : ∀ i, dst = some i → M i = false) : (s.forget M).eff dst (.val d) = (s.eff dst (.val d)).forget M := by
  cases dst with
  | none => rfl
  | some i =>
    simp only [St.eff, St.forget]
    congr 1
    funext x
    rw [upd_eq, upd_eq]
    by_cases hx : x = i
    · subst hx; simp [hd x rfl]
    · simp [hx]
theorem opWp_forget {P : Program} {T : Types} {o : Oper} {s : St} {M : Nat → Bool} {K : St → Prop} (hs : isStore o = true) (hM : ∀ t, Operand.tmp t ∈ o.op.operands.toList → M t = false) (hd : ∀ i, o.dst = some i → M i = false)
    (h : opWp P T o s K) : opWp P T o (s.forget M) fun s2 => ∃ s1, K s1 ∧ s2 = s1.forget M ∧ ∀ x, o.dst ≠ some x → s1.t x = s.t x := by
  have eff_t : ∀ (s : St) (d : D) (x : Nat), o.dst ≠ some x → (s.eff o.dst (.val d)).t x = s.t x := by
    intro s d x hx
    cases hq : o.dst with
    | none => rfl
    | some i =>
      simp only [St.eff]
      rw [upd_eq, if_neg]
      rintro rfl
      exact hx hq
  unfold isStore at hs
  split at hs
  · rename_i t a x ho
    have ea : (s.forget M).ev a = s.ev a := forget_ev fun t ht => hM t (by rw [ho]; subst ht; simp [Op.operands])
    have ex : (s.forget M).ev x = s.ev x := forget_ev fun t ht => hM t (by rw [ho]; subst ht; simp [Op.operands])
    simp only [opWp, ho] at h ⊢
    rw [ea, ex]
    split at h
    · rename_i id off hida
      have em : (s.forget M).m id = s.m id := rfl
      rw [em]
      split at h
      · rename_i c hc
        rw [force_eq] at h ⊢
        refine storeK_mono (fun c' hK => ?_) h
        rw [effK_eq] at hK ⊢
        refine ⟨_, hK, ?_, fun y hy => ?_⟩
        · exact forget_put (s := s.setm id c') hd
        · rw [eff_t _ _ _ hy]; rfl
      · exact h.elim
    · exact h.elim
  · rename_i x ho
    have ex : (s.forget M).ev x = s.ev x := forget_ev fun t ht => hM t (by rw [ho]; subst ht; simp [Op.operands])
    simp only [opWp, ho, quietK] at h ⊢
    rw [ex]
    rw [force_eq] at h ⊢
    rw [effK_eq] at h ⊢
    exact ⟨_, h, forget_put hd, fun y hy => eff_t _ _ _ hy⟩
  · cases hs

theorem opWp_store_mono {P : Program} {T : Types} {o : Oper} {s : St} {K K' : St → Prop} (hs : isStore o = true) (hk : ∀ s, K s → K' s) (h : opWp P T o s K) : opWp P T o s K' := by
  unfold isStore at hs
  split at hs
  · rename_i t a x ho
    simp only [opWp, ho] at h ⊢
    split at h
    · split at h
      · rw [force_eq] at h ⊢
        refine storeK_mono (fun c' hK => ?_) h
        rw [effK_eq] at hK ⊢
        exact hk _ hK
      · exact h.elim
    · exact h.elim
  · rename_i x ho
    simp only [opWp, ho, quietK] at h ⊢
    rw [force_eq] at h ⊢
    rw [effK_eq] at h ⊢
    exact hk _ h
  · cases hs

section
variable {P : Program} {T : Types} {n : Nat} {w0 w : World} {l0 : Loc} {s : St} {a : Act} {loc : Loc}
theorem Inv.forget (h : Inv P T n w0 l0 s a w loc) (M : Nat → Bool) : Inv P T n w0 l0 (s.forget M) a w loc :=
  ⟨h.types, h.size, h.small, h.defers, h.same, fun i => by
    simp only [St.forget]
    cases M i
    · exact h.tmp i
    · simp [Rep], h.mem, h.cnt, h.range, h.live, h.lent, h.inj⟩
end

theorem unK_ex {op : UnOp} {x : D} {K : D → Prop} (h : unK op x K) : ∃ d, K d := by
  unfold unK at h
  split at h <;> first | exact ⟨_, h⟩ | exact h.elim
theorem binK_ex {P : Program} {T : Types} {op : BinOp} {t : TypeId} {x y : D} {K : D → Prop} (h : binK P T op t x y K) : ∃ d, K d := by
  unfold binK at h
  split at h
  · split at h
    · exact ⟨_, h.2⟩
    · exact ⟨_, h.2⟩
    · rw [asrt_iff] at h
      obtain ⟨_, h⟩ := h
      split at h
      · exact ⟨_, h⟩
      · exact ⟨_, h⟩
      · exact ⟨_, h⟩
      · exact ⟨_, h.2⟩
      · exact ⟨_, h.2⟩
      · exact ⟨_, h⟩
      · exact ⟨_, h⟩
      · exact ⟨_, h⟩
      · exact ⟨_, h⟩
      · split at h
        · exact ⟨_, h⟩
        · exact h.elim
  · split at h
    · exact ⟨_, h.2⟩
    · split at h
      · exact ⟨_, h⟩
      · exact h.elim
  · split at h
    · obtain ⟨_, _, h⟩ := h; exact ⟨_, h⟩
    · obtain ⟨_, _, h⟩ := h; exact ⟨_, h⟩
    · exact h.elim
  · split at h
    · exact ⟨_, h⟩
    · exact ⟨_, h⟩
    · exact h.elim
  · split at h
    · exact ⟨_, h⟩
    · exact h.elim
  · split at h
    · exact ⟨_, h.2⟩
    · exact h.elim
  · exact h.elim
theorem pure_congr {P : Program} {T : Types} {o : Oper} {s s' : St} {K : Eff → Prop} (hp : isPureOp o = true) (hev : ∀ x ∈ o.op.operands.toList, s.ev x = s'.ev x) (h : quietK P T o s K) : quietK P T o s' K := by
  unfold isPureOp at hp
  split at hp
  · rename_i x ho
    have := hev x (by rw [ho]; simp [Op.operands])
    simp only [quietK, ho] at h ⊢
    rw [← this]; exact h
  · rename_i x i ho
    have := hev x (by rw [ho]; simp [Op.operands])
    simp only [quietK, ho] at h ⊢
    rw [← this]; exact h
  · rename_i op t x ho
    have := hev x (by rw [ho]; simp [Op.operands])
    simp only [quietK, ho] at h ⊢
    rw [← this]; exact h
  · rename_i op t x y t' ho
    have h1 := hev x (by rw [ho]; simp [Op.operands])
    have h2 := hev y (by rw [ho]; simp [Op.operands])
    simp only [quietK, ho] at h ⊢
    rw [← h1, ← h2]; exact h
  · cases hp
theorem pure_val {P : Program} {T : Types} {o : Oper} {s : St} {e : Eff} (hp : isPureOp o = true) (h : quietK P T o s fun x => x = e) : ∃ d, e = .val d := by
  unfold isPureOp at hp
  split at hp
  · rename_i x ho
    simp only [quietK, ho] at h
    rw [force_eq] at h
    exact ⟨_, h.symm⟩
  · rename_i x i ho
    simp only [quietK, ho] at h
    split at h
    · split at h
      · rw [force_eq] at h; exact ⟨_, h.symm⟩
      · exact h.elim
    · exact h.elim
  · rename_i op t x ho
    simp only [quietK, ho] at h
    obtain ⟨d, hd⟩ := unK_ex h
    exact ⟨d, hd.symm⟩
  · rename_i op t x y t' ho
    simp only [quietK, ho] at h
    obtain ⟨d, hd⟩ := binK_ex h
    exact ⟨d, hd.symm⟩
  · cases hp
end Go.V
/- The abstract states are sound, last part: code, and a whole function: a contract from the weakest precondition of the body. -/
set_option linter.unusedVariables false
set_option linter.unusedSimpArgs false
namespace Go.V

section
variable {P : Program} {T : Types} {n : Nat} {w0 w : World} {l0 : Loc} {s : St} {a : Act} {loc : Loc} {ops : Array Oper} {k : Nat}

theorem Inv.hide (h : Inv P T n w0 l0 s a w loc) (b : Nat → Bool) (c0 : Nat → Nat) : Ctx P T w w0.heap.size loc (s.hide b c0) a where
  types := h.types
  ev x := by
    have := h.ev x
    have e : (s.hide b c0).ev x = s.ev x := ev_congr fun _ _ => rfl
    rw [e]; exact this
  mem id c hc := by
    simp only [St.hide] at hc
    cases hh : (b id.1 && Nat.ble (c0 id.1) id.2.1) <;> simp only [hh, cond_true, cond_false] at hc
    · exact h.mem id c hc
    · cases hc
  le := h.same.size
  range id b k he := (h.range id b k he).2
  cnt := h.cnt

theorem Inv.drew (h : Inv P T n w0 l0 s a w loc) : Inv P T n w0 l0 s a w.drew loc := by
  have hb : RowKit.Below w.heap.size w w.drew := (RowKit.Below.refl _ _).drew
  have hext : Ext w0.heap.size w0.heap.size w loc w.drew loc := ext_below hb fun id b k he => (h.range id b k he).2
  exact ⟨h.types, h.size, h.small, h.defers, h.same.below hb, fun i => Rep.ext hext _ _ (h.tmp i), fun id c hc => by
    obtain ⟨l, xs, g1, g2, g3⟩ := h.mem id c hc
    exact ⟨l, xs, g1, Rep.ext hext _ _ g2, blk_ext hb g3⟩, h.cnt, h.range, h.live, h.lent, h.inj⟩

theorem mem_ready {listed : Array Bool} (hs : listed.size = ops.size) {i : Nat} : i ∈ Region.ready .any ops listed ↔ i < ops.size ∧ listed.getD i false = false ∧ ∀ e ∈ depsAt ops i, listed.getD e false = true := by
  unfold Region.ready
  rw [List.mem_filter]
  constructor
  · rintro ⟨h1, h2⟩
    have hi : i < ops.size := by simpa using h1
    have ho : ops[i]? = some ops[i] := by simp [hi]
    rw [ho] at h2
    simp only [Bool.and_eq_true, Bool.not_eq_true', Option.map_some, Option.getD_some] at h2
    refine ⟨hi, ?_, ?_⟩
    · have := h2.1
      rw [Array.getD_eq_getD_getElem?] at this ⊢
      have hl : i < listed.size := by omega
      simpa [hl] using this
    · intro e he
      unfold depsAt depsOf at he
      rw [ho] at he
      simp only [List.mem_map, List.mem_filter] at he
      obtain ⟨ed, ⟨hed, hb⟩, rfl⟩ := he
      have := (Array.all_eq_true'.1 h2.2) ed (by simpa using hed)
      simpa [hb] using this
  · rintro ⟨hi, h1, h2⟩
    refine ⟨by simpa using hi, ?_⟩
    have ho : ops[i]? = some ops[i] := by simp [hi]
    rw [ho]
    simp only [Bool.and_eq_true, Bool.not_eq_true', Option.map_some, Option.getD_some]
    refine ⟨?_, ?_⟩
    · rw [Array.getD_eq_getD_getElem?] at h1 ⊢
      have hl : i < listed.size := by omega
      simpa [hl] using h1
    · rw [Array.all_eq_true']
      intro ed hed
      cases hb : Region.binds .any ed
      · rfl
      · simp only [Bool.not_true, Bool.false_or]
        refine h2 _ ?_
        unfold depsAt depsOf
        rw [ho]
        simp only [List.mem_map, List.mem_filter]
        exact ⟨ed, ⟨by simpa using hed, hb⟩, rfl⟩

theorem getD_set {listed : Array Bool} {i j : Nat} : (listed.setIfInBounds i true).getD j false = (if j = i ∧ i < listed.size then true else listed.getD j false) := by
  simp only [Array.getD_eq_getD_getElem?, Array.getElem?_setIfInBounds]
  by_cases h : i = j
  · subst h
    by_cases h2 : i < listed.size <;> simp [h2]
  · simp [h, Ne.symm h]

def unlisted (ops : Array Oper) (listed : Array Bool) : Nat := (List.range ops.size).countP fun i => !listed.getD i false

theorem count_step {listed : Array Bool} (hs : listed.size = ops.size) {i : Nat} (hi : i < ops.size) (hl : listed.getD i false = false) : unlisted ops (listed.setIfInBounds i true) + 1 = unlisted ops listed := by
  unfold unlisted
  have : ∀ (l : List Nat), l.Nodup → ((i ∈ l → l.countP (fun j => !(listed.setIfInBounds i true).getD j false) + 1 = l.countP (fun j => !listed.getD j false)) ∧
      (i ∉ l → l.countP (fun j => !(listed.setIfInBounds i true).getD j false) = l.countP (fun j => !listed.getD j false))) := by
    intro l
    induction l with
    | nil => intro _; simp
    | cons x l ih =>
      intro hn
      rw [List.nodup_cons] at hn
      obtain ⟨h1, h2⟩ := ih hn.2
      simp only [List.countP_cons, getD_set]
      constructor
      · intro hm
        by_cases hx : x = i
        · subst hx
          have h3 := h2 hn.1
          simp only [getD_set] at h3
          simp only [hs, hi, and_self, if_true, hl, Bool.not_true, Bool.not_false, Bool.false_eq_true, if_false, Nat.add_zero]
          rw [← h3]
          simp only [hs, hi]
        · have hm' : i ∈ l := by
            rcases List.mem_cons.1 hm with h | h
            · exact absurd h.symm hx
            · exact h
          have := h1 hm'
          simp only [getD_set] at this
          simp only [hx, false_and, if_false]
          omega
      · intro hm
        have hx : x ≠ i := fun e => hm (by simp [e])
        have hm' : i ∉ l := fun e => hm (by simp [e])
        have := h2 hm'
        simp only [getD_set] at this
        simp only [hx, false_and, if_false]
        omega
  exact (this _ List.nodup_range).1 (by simpa using hi)

theorem all_listed {listed : Array Bool} (h : unlisted ops listed = 0) : ∀ i, i < ops.size → listed.getD i false = true := by
  intro i hi
  unfold unlisted at h
  have := List.countP_eq_zero.1 h i (by simpa using hi)
  simpa using this

/-- The slots of what is still to come among the first k. -/
def miss (ops : Array Oper) (k : Nat) (listed : Array Bool) (x : Nat) : Bool := (List.range k).any fun i => !listed.getD i false && (dstAt ops i == some x)
theorem miss_iff {listed : Array Bool} {x : Nat} : miss ops k listed x = true ↔ ∃ i, i < k ∧ listed.getD i false = false ∧ dstAt ops i = some x := by
  unfold miss
  rw [List.any_eq_true]
  constructor
  · rintro ⟨i, hi, h⟩
    simp only [Bool.and_eq_true, Bool.not_eq_true', beq_iff_eq] at h
    exact ⟨i, by simpa using hi, h.1, h.2⟩
  · rintro ⟨i, hi, h1, h2⟩
    exact ⟨i, by simpa using hi, by simp [h1, h2]⟩
theorem miss_false {listed : Array Bool} {x : Nat} : miss ops k listed x = false ↔ ∀ i, i < k → dstAt ops i = some x → listed.getD i false = true := by
  rw [← Bool.not_eq_true, miss_iff]
  constructor
  · intro h i hi hd
    cases hl : listed.getD i false with
    | true => rfl
    | false => exact (h ⟨i, hi, hl, hd⟩).elim
  · rintro h ⟨i, hi, hl, hd⟩
    rw [h i hi hd] at hl; cases hl
theorem forget_none {s : St} {M : Nat → Bool} (h : ∀ x, M x = false) : s.forget M = s := by
  unfold St.forget
  simp only [h, cond_false]

theorem stL_late {s0 : St} {E : Nat → Eff} {listed : Array Bool} (hu : Uniq ops k) (hval : ∀ i, i < k → listed.getD i false = false → ∃ d, E i = .val d) :
    (stL s0 ops k E fun x => Nat.blt x k).forget (miss ops k listed) = (stL s0 ops k E fun i => listed.getD i false).forget (miss ops k listed) := by
  have same : ∀ x, miss ops k listed x = false → owner ops k (fun x => Nat.blt x k) x = owner ops k (fun i => listed.getD i false) x := fun x hx => owner_congr fun i hi hd => by
    rw [miss_false.1 hx i hi hd, blt_eq]; simpa using hi
  have full : ∀ x, miss ops k listed x = true → ∃ i d, owner ops k (fun x => Nat.blt x k) x = some i ∧ E i = .val d ∧ owner ops k (fun i => listed.getD i false) x = none := by
    intro x hx
    obtain ⟨i, hi, hl, hd⟩ := miss_iff.1 hx
    obtain ⟨d, he⟩ := hval i hi hl
    refine ⟨i, d, (owner_some hu).2 ⟨hi, by rw [blt_eq]; simpa using hi, hd⟩, he, owner_none.2 fun j hj hlj hdj => ?_⟩
    by_cases hij : j = i
    · rw [hij, hl] at hlj; cases hlj
    · exact hu j i x hj hi hij hdj hd
  unfold St.forget stL
  congr 1
  · funext x
    cases hx : miss ops k listed x with
    | true => rfl
    | false => simp only [cond_false, same x hx]
  · funext id
    cases hx : miss ops k listed id.1 with
    | true => obtain ⟨i, d, h1, h2, h3⟩ := full id.1 hx; simp only [h1, h2, h3]
    | false => simp only [same _ hx]
  · funext x
    cases hx : miss ops k listed x with
    | true => obtain ⟨i, d, h1, h2, h3⟩ := full x hx; simp only [h1, h2, h3]
    | false => simp only [same _ hx]

/-- What is kept while the region goes on in whatever order. -/
def Phase (P : Program) (T : Types) (n : Nat) (w0 : World) (l0 : Loc) (ops : Array Oper) (k : Nat) (s0 : St) (E : Nat → Eff) (K : St → Prop) (listed : Array Bool) (a : Act) (w : World) : Prop :=
  (∃ loc, (∀ i, listed.getD i false = true → i < k) ∧ Inv P T n w0 l0 (stL s0 ops k E fun i => listed.getD i false) a w loc) ∨
  (∃ p s loc, k < p ∧ p ≤ ops.size ∧ (∀ i, k ≤ i → i < ops.size → (listed.getD i false = true ↔ i < p)) ∧ opsWp P T ops (ops.toList.drop p) K s ∧
    ((∃ i, i < k ∧ listed.getD i false = false) → ∀ x, (∀ q, k ≤ q → q < p → dstAt ops q ≠ some x) → s.t x = (stL s0 ops k E fun x => Nat.blt x k).t x) ∧
    Inv P T n w0 l0 (s.forget (miss ops k listed)) a w loc)

def Closed (ops : Array Oper) (bs : Array Nat) (listed : Array Bool) : Prop :=
  ∀ j i, j < ops.size → i < ops.size → listed.getD j false = true → (bs.getD j 0).testBit i = true → listed.getD i false = true

theorem draw_any {bs : Array Nat} {s0 : St} {E : Nat → Eff} {K : St → Prop} {Q : Exit → Act → World → Prop} (hok : DrawOk ops bs k) (hd : dstOk n ops = true)
    (hE : ∀ i, i < k → StepOk P T ops bs k s0 E i) (hfin : opsWp P T ops (ops.toList.drop k) K (stL s0 ops k E fun x => Nat.blt x k))
    (hQ : ∀ s' a' w' loc', K s' → Inv P T n w0 l0 s' a' w' loc' → Q .normal a' w') :
    ∀ (fuel : Nat) (listed : Array Bool) (a : Act) (w : World), listed.size = ops.size → unlisted ops listed ≤ fuel → Closed ops bs listed → Phase P T n w0 l0 ops k s0 E K listed a w →
      wpAny P .any ops Q fuel listed a w := by
  have isVal : ∀ i, i < k → (∃ p, ops[i]? = some p ∧ isPureOp p = true) → ∃ d, E i = .val d := by
    rintro i hi ⟨p, hp, hpure⟩
    obtain ⟨o, ho, h⟩ := hE i hi
    rw [hp] at ho
    cases ho
    rcases h with ⟨_, h⟩ | ⟨_, h⟩
    · exact pure_val hpure h
    · exact ⟨_, h⟩
  -- the state at the door of the finals
  have two : ∀ (p0 : Nat) (listed : Array Bool) (a : Act) (w : World), listed.size = ops.size → (∀ i, i < k → listed.getD i false = false → ∃ o, ops[i]? = some o ∧ isPureOp o = true) → Phase P T n w0 l0 ops k s0 E K listed a w →
      ∃ p s loc, k ≤ p ∧ p ≤ ops.size ∧ (∀ i, k ≤ i → i < ops.size → (listed.getD i false = true ↔ i < p)) ∧ opsWp P T ops (ops.toList.drop p) K s ∧
        ((∃ i, i < k ∧ listed.getD i false = false) → ∀ x, (∀ q, k ≤ q → q < p → dstAt ops q ≠ some x) → s.t x = (stL s0 ops k E fun x => Nat.blt x k).t x) ∧
        Inv P T n w0 l0 (s.forget (miss ops k listed)) a w loc := by
    intro p0 listed a w hs hpure hph
    rcases hph with ⟨loc, h1, h2⟩ | ⟨p, s, loc, h1, h2, h3, h4, h5, h6⟩
    · refine ⟨k, _, loc, Nat.le_refl _, hok.le, fun i hk hi => ⟨h1 i, fun h => by omega⟩, hfin, fun _ x _ => rfl, ?_⟩
      rw [stL_late hok.uniq fun i hi hl => isVal i hi (hpure i hi hl)]
      exact h2.forget _
    · exact ⟨p, s, loc, by omega, h2, h3, h4, h5, h6⟩
  have done : ∀ (listed : Array Bool) (a : Act) (w : World), listed.size = ops.size → (∀ i, i < ops.size → listed.getD i false = true) → Phase P T n w0 l0 ops k s0 E K listed a w → Q .normal a w := by
    intro listed a w hs hall hph
    obtain ⟨p, s, loc, h1, h2, h3, h4, _, h5⟩ := two 0 listed a w hs (fun i hi hl => by rw [hall i (Nat.lt_of_lt_of_le hi hok.le)] at hl; cases hl) hph
    have hp : p = ops.size := by
      rcases Nat.lt_or_ge p ops.size with h | h
      · have := (h3 p h1 h).1 (hall p h); omega
      · omega
    subst hp
    have : ops.toList.drop ops.size = [] := List.drop_eq_nil_of_le (by simp)
    rw [this] at h4
    rw [forget_none fun x => miss_false.2 fun i hi _ => hall i (Nat.lt_of_lt_of_le hi hok.le)] at h5
    exact hQ _ _ _ _ h4 h5
  have empty : ∀ (listed : Array Bool), listed.size = ops.size → Region.ready .any ops listed = [] → ∀ i, i < ops.size → listed.getD i false = true := by
    intro listed hs hr i
    induction i using Nat.strongRecOn with
    | _ i ih =>
      intro hi
      cases hl : listed.getD i false with
      | true => rfl
      | false =>
        have : i ∈ Region.ready .any ops listed := (mem_ready hs).2 ⟨hi, hl, fun e he => by
          have := hok.deps i hi e he
          exact ih e this (by omega)⟩
        rw [hr] at this
        cases this
  intro fuel
  induction fuel with
  | zero =>
    intro listed a w hs hf hc hph
    have hall := all_listed (by omega : unlisted ops listed = 0)
    refine ⟨?_, done listed a w hs hall hph⟩
    rw [List.eq_nil_iff_forall_not_mem]
    intro i hi
    obtain ⟨h1, h2, _⟩ := (mem_ready hs).1 hi
    rw [hall i h1] at h2
    cases h2
  | succ fuel ih =>
    intro listed a w hs hf hc hph
    refine ⟨fun hr => done listed a w hs (empty listed hs hr) hph, fun j hj => ?_⟩
    obtain ⟨hjs, hlj, hdeps⟩ := (mem_ready hs).1 hj
    have hbits : ∀ i, i < ops.size → (bs.getD j 0).testBit i = true → listed.getD i false = true := by
      intro i hi hb
      obtain ⟨_, h | ⟨e, he, hej, hee⟩⟩ := hok.cert j i hjs hi hb
      · exact hdeps i h
      · exact hc e i (by omega) hi (hdeps e he) hee
    have hs' : (listed.setIfInBounds j true).size = ops.size := by simp [hs]
    have hf' : unlisted ops (listed.setIfInBounds j true) ≤ fuel := by have := count_step hs hjs hlj; omega
    have hc' : Closed ops bs (listed.setIfInBounds j true) := by
      intro j' i hj' hi hl hb
      rw [getD_set] at hl ⊢
      split
      · rfl
      · split at hl
        · rename_i h; rw [h.1] at hb; exact hbits i hi hb
        · exact hc j' i hj' hi hl hb
    have ho : ops[j]? = some ops[j] := by simp [hjs]
    have hdst : ops[j].dst = dstAt ops j := by simp [dstAt, ho]
    have tmpLooks : ∀ t, Operand.tmp t ∈ ops[j].op.operands.toList → t ∈ ops[j].looksAt ops := by
      intro t hx
      unfold Oper.looksAt
      rw [List.mem_append]
      left
      rw [List.mem_filterMap]
      exact ⟨_, hx, rfl⟩
    simp only [wpOp, ho]
    by_cases hjk : j < k
    · -- one of the first k
      obtain ⟨o, ho', hstep⟩ := hE j hjk
      rw [ho] at ho'
      cases ho'
      obtain ⟨v1, v2, v3⟩ := view_same (s0 := s0) (E := E) (L := fun i => listed.getD i false) hok hjk ho hlj (fun i hi hb => hbits i (Nat.lt_of_lt_of_le hi hok.le) hb)
      rcases hph with ⟨loc, hpre, hinv⟩ | ⟨p, s, loc, hkp, hps, hl3, hl4, hl5, hinv⟩
      · have hins : stL s0 ops k E (fun i => (listed.setIfInBounds j true).getD i false) = (stL s0 ops k E fun i => listed.getD i false).eff ops[j].dst (E j) := by
          rw [stL_insert (L := fun i => listed.getD i false) (L' := fun i => (listed.setIfInBounds j true).getD i false) (j := j) hok.uniq hjk hlj (fun i => by
            show (listed.setIfInBounds j true).getD i false = (i == j || listed.getD i false)
            rw [getD_set]
            by_cases hij : i = j
            · simp [hij, hs, hjs]
            · have : (i == j) = false := by simpa using hij
              simp [hij, this]), hdst]
        have hpre' : ∀ i, (listed.setIfInBounds j true).getD i false = true → i < k := by
          intro i hl
          rw [getD_set] at hl
          split at hl
          · rename_i h; rw [h.1]; exact hjk
          · exact hpre i hl
        have hg : guardK ops ops[j] (stL s0 ops k E fun i => listed.getD i false) (quietK P T ops[j] ((stL s0 ops k E fun i => listed.getD i false).hide (unseen ops bs k j) s0.c) (fun e => e = E j)) (E j = .val (.tup [])) := by
          apply guardK_congr v1
          apply guard_join
          rcases hstep with ⟨g1, g2⟩ | ⟨g1, g2⟩
          · refine .inl ⟨g1, quietK_congr (fun x hx => ?_) v2 v3 g2⟩
            apply ev_congr
            rintro t rfl
            exact v1 t (tmpLooks t hx)
          · exact .inr ⟨g1, g2⟩
        rcases guard_yes hinv.tmp hg with ⟨hw, hq⟩ | ⟨hw, hq⟩
        · rw [if_pos hw]
          left
          refine Done.wp (quiet_sound (hinv.hide _ _) (fun i hi => Nat.lt_of_lt_of_le (dst_lt hd ho i hi) hinv.small) hq) ?_
          rintro y w' ⟨e, rfl, heff⟩
          obtain ⟨loc', hinv'⟩ := hinv.eff (e := E j) heff (dst_lt hd ho)
          refine ih _ _ _ hs' hf' hc' (.inl ⟨loc', hpre', ?_⟩)
          rw [hins]; exact hinv'
        · rw [if_neg (by simp [hw])]
          refine ih _ _ _ hs' hf' hc' (.inl ⟨loc, hpre', ?_⟩)
          rw [hins, hq]
          have hput : (stL s0 ops k E fun i => listed.getD i false).eff ops[j].dst (.val (.tup [])) = (stL s0 ops k E fun i => listed.getD i false).put ops[j].dst (.tup []) := by
            cases ops[j].dst <;> rfl
          rw [hput]
          exact hinv.skip _ (dst_lt hd ho)
      · -- behind some of the finals
        have late : ∀ q, k ≤ q → q < p → LateOk ops k q j := by
          intro q hq1 hq2
          rcases hok.fins q j hq1 (by omega) (by omega) with h | h
          · have := hc q j (by omega) hjs ((hl3 q hq1 (by omega)).2 hq2) h
            rw [hlj] at this; cases this
          · exact h
        have lk := late k (Nat.le_refl _) hkp
        obtain ⟨_, o', p', dj, _, hp', _, hpure, hdj, _, hself, _, _⟩ := lk
        rw [ho] at hp'
        cases hp'
        have hval := isVal j hjk ⟨_, ho, hpure⟩
        obtain ⟨dv, hdv⟩ := hval
        have hdj' : dstAt ops j = some dj := by rw [← hdst]; exact hdj
        have unl : ∃ i, i < k ∧ listed.getD i false = false := ⟨j, hjk, hlj⟩
        have fullT : ∀ x, miss ops k listed x = false → (∀ q, k ≤ q → q < p → dstAt ops q ≠ some x) → (s.forget (miss ops k listed)).t x = (stL s0 ops k E fun i => listed.getD i false).t x := by
          intro x hx hq
          simp only [St.forget, hx, cond_false]
          rw [hl5 unl x hq]
          have : owner ops k (fun x => Nat.blt x k) x = owner ops k (fun i => listed.getD i false) x := owner_congr fun i hi hdi => by
            rw [miss_false.1 hx i hi hdi, blt_eq]; simpa using hi
          simp only [stL, this]
        have view : ∀ x ∈ ops[j].looksAt ops, (stL s0 ops k E fun x => Nat.blt x j).t x = (s.forget (miss ops k listed)).t x := by
          intro x hx
          rw [v1 x hx]
          refine (fullT x (miss_false.2 fun i hi hdi => ?_) fun q hq1 hq2 => ?_).symm
          · by_cases hij : i = j
            · subst hij
              rw [hdj'] at hdi
              cases hdi
              exact (hself hx).elim
            · exact hbits i (Nat.lt_of_lt_of_le hi hok.le) (hok.sees j _ i x hjk ho hi hij hdi hx)
          · obtain ⟨_, oq, pq, dq, hoq, hpq, _, _, _, _, _, _, hlast⟩ := late q hq1 hq2
            rw [ho] at hpq
            cases hpq
            intro hdq
            have : oq.dst = some x := by simpa [dstAt, hoq] using hdq
            exact hlast x this hx
        have hg : guardK ops ops[j] (s.forget (miss ops k listed)) (quietK P T ops[j] (s.forget (miss ops k listed)) (fun e => e = E j)) (E j = .val (.tup [])) := by
          apply guardK_congr view
          apply guard_join
          rcases hstep with ⟨g1, g2⟩ | ⟨g1, g2⟩
          · refine .inl ⟨g1, pure_congr hpure (fun x hx => ?_) g2⟩
            have e1 : ((stL s0 ops k E fun x => Nat.blt x j).hide (unseen ops bs k j) s0.c).ev x = (stL s0 ops k E fun x => Nat.blt x j).ev x := ev_congr fun _ _ => rfl
            rw [e1]
            apply ev_congr
            rintro t rfl
            exact view t (tmpLooks t hx)
          · exact .inr ⟨g1, g2⟩
        have hmiss : ∀ x, miss ops k (listed.setIfInBounds j true) x = (miss ops k listed x && !(x == dj)) := by
          intro x
          by_cases hxd : x = dj
          · subst hxd
            have : miss ops k (listed.setIfInBounds j true) x = false := miss_false.2 fun i hi hdi => by
              rw [getD_set]
              by_cases hij : j = i
              · rw [if_pos ⟨hij.symm, by omega⟩]
              · exact (hok.uniq j i x hjk hi hij hdj' hdi).elim
            rw [this]; simp
          · have hx : (x == dj) = false := by simpa using hxd
            rw [hx, Bool.not_false, Bool.and_true, Bool.eq_iff_iff, miss_iff, miss_iff]
            constructor
            · rintro ⟨i, hi, hl, hdi⟩
              rw [getD_set] at hl
              split at hl
              · cases hl
              · exact ⟨i, hi, hl, hdi⟩
            · rintro ⟨i, hi, hl, hdi⟩
              refine ⟨i, hi, ?_, hdi⟩
              rw [getD_set, if_neg]
              · exact hl
              · rintro ⟨rfl, _⟩
                rw [hdj'] at hdi
                cases hdi
                exact hxd rfl
        have hsdj : s.t dj = dv := by
          rw [hl5 unl dj fun q hq1 hq2 hdq => by
            obtain ⟨_, oq, pq, dq, hoq, hpq, _, _, hdpq, _, _, hne, _⟩ := late q hq1 hq2
            rw [ho] at hpq
            cases hpq
            rw [hdj] at hdpq
            cases hdpq
            exact hne (by simpa [dstAt, hoq] using hdq)]
          have : owner ops k (fun x => Nat.blt x k) dj = some j := (owner_some hok.uniq).2 ⟨hjk, by rw [blt_eq]; simpa using hjk, hdj'⟩
          simp only [stL, this, hdv, effD]
        have hset : (s.forget (miss ops k listed)).eff ops[j].dst (E j) = s.forget (miss ops k (listed.setIfInBounds j true)) := by
          rw [hdj, hdv]
          simp only [St.eff, St.forget]
          congr 1
          funext x
          rw [upd_eq, hmiss]
          by_cases hxd : x = dj
          · subst hxd; simp [hsdj]
          · have hx : (x == dj) = false := by simpa using hxd
            simp [hxd, hx]
        have hl3' : ∀ i, k ≤ i → i < ops.size → ((listed.setIfInBounds j true).getD i false = true ↔ i < p) := by
          intro i hi1 hi2
          rw [getD_set, if_neg (by omega)]
          exact hl3 i hi1 hi2
        have hph' : ∀ (a' : Act) (w' : World) (loc' : Loc), Inv P T n w0 l0 (s.forget (miss ops k (listed.setIfInBounds j true))) a' w' loc' → Phase P T n w0 l0 ops k s0 E K (listed.setIfInBounds j true) a' w' :=
          fun a' w' loc' h => .inr ⟨p, s, loc', hkp, hps, hl3', hl4, fun _ => hl5 unl, h⟩
        rcases guard_yes hinv.tmp hg with ⟨hw, hq⟩ | ⟨hw, hq⟩
        · rw [if_pos hw]
          left
          refine Done.wp (quiet_sound hinv.ctx (fun i hi => Nat.lt_of_lt_of_le (dst_lt hd ho i hi) hinv.small) hq) ?_
          rintro y w' ⟨e, rfl, heff⟩
          obtain ⟨loc', hinv'⟩ := hinv.eff (e := E j) heff (dst_lt hd ho)
          rw [hset] at hinv'
          exact ih _ _ _ hs' hf' hc' (hph' _ _ _ hinv')
        · rw [if_neg (by simp [hw])]
          refine ih _ _ _ hs' hf' hc' (hph' _ _ loc ?_)
          rw [← hset, hq, eff_junk]
          exact hinv.skip _ (dst_lt hd ho)
    · -- one of the others, in its turn
      have late : ∀ i, i < k → listed.getD i false = false → LateOk ops k j i := by
        intro i hi hl
        rcases hok.fins j i (by omega) hjs (by omega) with h | h
        · rw [hbits i (Nat.lt_of_lt_of_le hi hok.le) h] at hl; cases hl
        · exact h
      have hprev : ∀ i, k ≤ i → i < j → listed.getD i false = true := fun i hk hi => by
        rcases hok.fins j i (by omega) hjs hi with h | h
        · exact hbits i (by omega) h
        · have := h.lt; omega
      obtain ⟨p, s, loc, h1, h2, h3, h4, h4t, h5⟩ := two j listed a w hs (fun i hi hl => by
        obtain ⟨_, o, p, d, _, hp, _, hpure, _⟩ := late i hi hl
        exact ⟨p, hp, hpure⟩) hph
      have hpj : p = j := by
        have g1 : ¬ j < p := fun h => by have := (h3 j (by omega) hjs).2 h; rw [hlj] at this; cases this
        rcases Nat.lt_or_ge p j with g2 | g2
        · have := (h3 p h1 (by omega)).1 (hprev p h1 g2); omega
        · omega
      subst hpj
      have hdrop : ops.toList.drop p = ops[p] :: ops.toList.drop (p + 1) := by
        rw [List.drop_eq_getElem_cons (by simpa using hjs)]
        simp
      rw [hdrop] at h4
      simp only [opsWp, effK_eq, eff_junk] at h4
      have hlist' : ∀ i, k ≤ i → i < ops.size → ((listed.setIfInBounds p true).getD i false = true ↔ i < p + 1) := by
        intro i hk hi
        rw [getD_set]
        split
        · rename_i h; rw [h.1]; simp
        · rename_i h
          rw [h3 i hk hi]
          have : i ≠ p := fun e => h ⟨e, by omega⟩
          omega
      have hsame : miss ops k (listed.setIfInBounds p true) = miss ops k listed := by
        funext x
        rw [Bool.eq_iff_iff, miss_iff, miss_iff]
        constructor <;> rintro ⟨i, hi, hl, hdi⟩ <;> refine ⟨i, hi, ?_, hdi⟩
        · rw [getD_set, if_neg (by omega)] at hl; exact hl
        · rw [getD_set, if_neg (by omega)]; exact hl
      have hlooks : ∀ x ∈ ops[p].looksAt ops, miss ops k listed x = false := fun x hx => miss_false.2 fun i hi hdi => by
        cases hl : listed.getD i false with
        | true => rfl
        | false =>
          obtain ⟨_, o, q, d, ho', hq, _, _, hdq, hno, _⟩ := late i hi hl
          rw [ho] at ho'
          cases ho'
          have : q.dst = some x := by simpa [dstAt, hq] using hdi
          rw [this] at hdq
          cases hdq
          exact (hno hx).elim
      have hdstM : ∀ x, ops[p].dst = some x → miss ops k listed x = false := fun x hx => miss_false.2 fun i hi hdi => by
        cases hl : listed.getD i false with
        | true => rfl
        | false =>
          obtain ⟨_, o, q, d, ho', hq, _, _, hdq, _, _, hne, _⟩ := late i hi hl
          rw [ho] at ho'
          cases ho'
          have : q.dst = some x := by simpa [dstAt, hq] using hdi
          rw [this] at hdq
          cases hdq
          exact (hne hx).elim
      have hgS : ∀ x ∈ ops[p].looksAt ops, s.t x = (s.forget (miss ops k listed)).t x := fun x hx => by
        simp only [St.forget, hlooks x hx, cond_false]
      have h4 := guardK_congr hgS h4
      have unl' : (∃ i, i < k ∧ (listed.setIfInBounds p true).getD i false = false) → ∃ i, i < k ∧ listed.getD i false = false := by
        rintro ⟨i, hi, hl⟩
        rw [getD_set, if_neg (by omega)] at hl
        exact ⟨i, hi, hl⟩
      have keepT : ∀ s1 : St, ((∃ i, i < k ∧ listed.getD i false = false) → ∀ x, ops[p].dst ≠ some x → s1.t x = s.t x) →
          (∃ i, i < k ∧ (listed.setIfInBounds p true).getD i false = false) → ∀ x, (∀ q, k ≤ q → q < p + 1 → dstAt ops q ≠ some x) → s1.t x = (stL s0 ops k E fun x => Nat.blt x k).t x := by
        intro s1 hs1 hu x hx
        rw [hs1 (unl' hu) x (by rw [hdst]; exact hx p h1 (by omega))]
        exact h4t (unl' hu) x fun q hq1 hq2 => hx q hq1 (by omega)
      rcases guard_yes h5.tmp h4 with ⟨hw, h4⟩ | ⟨hw, h4⟩
      · rw [if_pos hw]
        left
        have hop : opWp P T ops[p] (s.forget (miss ops k listed)) fun s2 => ∃ s1, opsWp P T ops (ops.toList.drop (p + 1)) K s1 ∧ s2 = s1.forget (miss ops k listed) ∧ ((∃ i, i < k ∧ listed.getD i false = false) → ∀ x, ops[p].dst ≠ some x → s1.t x = s.t x) := by
          by_cases hu : ∃ i, i < k ∧ listed.getD i false = false
          · obtain ⟨i, hi, hl⟩ := hu
            obtain ⟨_, o, q, d, ho', hq, hst, _⟩ := late i hi hl
            rw [ho] at ho'
            cases ho'
            have := opWp_forget (M := miss ops k listed) hst (fun t ht => hlooks t (tmpLooks t ht)) hdstM h4
            refine opWp_store_mono hst (fun s2 h => ?_) this
            obtain ⟨s1, g1, g2, g3⟩ := h
            exact ⟨s1, g1, g2, fun _ => g3⟩
          · have hno : ∀ x, miss ops k listed x = false := fun x => miss_false.2 fun i hi _ => by
              cases hl : listed.getD i false with
              | true => rfl
              | false => exact (hu ⟨i, hi, hl⟩).elim
            have e : ∀ s' : St, s'.forget (miss ops k listed) = s' := fun s' => forget_none hno
            have hK : (fun s2 => ∃ s1, opsWp P T ops (ops.toList.drop (p + 1)) K s1 ∧ s2 = s1.forget (miss ops k listed) ∧ ((∃ i, i < k ∧ listed.getD i false = false) → ∀ x, ops[p].dst ≠ some x → s1.t x = s.t x)) = opsWp P T ops (ops.toList.drop (p + 1)) K := by
              funext s2
              simp only [e, eq_iff_iff]
              exact ⟨by rintro ⟨s1, g1, rfl, _⟩; exact g1, fun g => ⟨s2, g, rfl, fun h => (hu h).elim⟩⟩
            rw [hK, e]
            exact h4
        refine Done.wp (op_sound h5 (dst_lt hd ho) hop) ?_
        rintro y w' ⟨s', loc', ⟨s1, g1, rfl, g2⟩, g3⟩
        exact ih _ _ _ hs' hf' hc' (.inr ⟨p + 1, s1, loc', by omega, by omega, hlist', g1, keepT s1 g2, by rw [hsame]; exact g3⟩)
      · rw [if_neg (by simp [hw])]
        refine ih _ _ _ hs' hf' hc' (.inr ⟨p + 1, _, loc, by omega, by omega, hlist', h4, keepT _ (fun _ x hx => ?_), ?_⟩)
        · rw [← eff_junk]
          cases hq : ops[p].dst with
          | none => rfl
          | some i =>
            simp only [St.eff]
            rw [upd_eq, if_neg]
            rintro rfl
            exact hx hq
        · rw [hsame, ← eff_junk, ← forget_put hdstM, eff_junk]
          exact h5.skip _ (dst_lt hd ho)

theorem draw_sound {id : Nat} {K : St → Prop} {Q : Exit → Act → World → Prop} {bs : Array Nat} (hm : P.follows .mixedOrders = true) (hd : dstOk n ops = true) (hok : drawOk ops bs k = true)
    (hk : drawWp P T ops bs k s.c 0 ops.toList K s) (hQ : ∀ s' a' w' loc', K s' → Inv P T n w0 l0 s' a' w' loc' → Q .normal a' w') (h : Inv P T n w0 l0 s a w loc) : (Code.region id ops true).wp P Q a w := by
  have hok' := drawOk_spec hok
  have h0 : (stL s ops k (fun _ => .val (.tup [])) fun x => Nat.blt x 0) = s := by
    have : ∀ x, owner ops k (fun x => Nat.blt x 0) x = none := fun x => owner_none.2 fun i _ hl => by simp [blt_eq] at hl
    unfold stL
    simp only [this]
  obtain ⟨E, _, h2, h3⟩ := draw_steps (s0 := s) hok'.uniq hok'.le k 0 (fun _ => .val (.tup [])) (by omega) (by rw [h0]; simpa using hk)
  refine wp_region_any hm (draw_any hok' hd (fun i hi => h2 i (Nat.zero_le _) hi) h3 hQ _ _ _ _ (by simp) ?_ ?_ (.inl ⟨loc, ?_, ?_⟩))
  · unfold unlisted
    have := List.countP_le_length (p := fun i => !(Array.replicate ops.size false).getD i false) (l := List.range ops.size)
    simpa using this
  · intro j i hj hi hl
    simp [Array.getD_eq_getD_getElem?, hj] at hl
  · intro i hl
    rw [Array.getD_eq_getD_getElem?, Array.getElem?_replicate] at hl
    split at hl <;> simp at hl
  · have : stL s ops k E (fun i => (Array.replicate ops.size false).getD i false) = s := by
      have : ∀ x, owner ops k (fun i => (Array.replicate ops.size false).getD i false) x = none := fun x => owner_none.2 fun i _ hl => by
        rw [Array.getD_eq_getD_getElem?, Array.getElem?_replicate] at hl
        split at hl <;> simp at hl
      unfold stL
      simp only [this]
    rw [this]
    exact h.drew

/-- Whatever the first state stands for, the second stands for, too. -/
def Sim (s s2 : St) : Prop := ∀ (P : Program) (T : Types) (n : Nat) (w0 : World) (l0 : Loc) (a : Act) (w : World) (loc : Loc), Inv P T n w0 l0 s a w loc → ∃ loc', Inv P T n w0 l0 s2 a w loc'

theorem Sim.refl (s : St) : Sim s s := fun _ _ _ _ _ _ _ loc h => ⟨loc, h⟩

/-- THE WEAKEST PRECONDITION OF CODE. -/
def wp (P : Program) (T : Types) : Code → (Ex → St → Prop) → St → Prop
  | .skip, Q, s => Q .normal s
  | .region _ ops false, Q, s => opsWp P T ops ops.toList (Q .normal) s
  | .region _ ops true, Q, s => bif seqOk ops then opsWp P T ops ops.toList (Q .normal) s else drawWp P T ops (befs ops) (quietCount ops.toList) s.c 0 ops.toList (Q .normal) s
  | .seq a b, Q, s => wp P T a (Ex.seq (wp P T b Q) Q) s
  | .cond c x y, Q, s => (match s.ev c with
    | .v (.bool b) => (match b with | true => wp P T x Q s | false => wp P T y Q s)
    | _ => False)
  | .block id c, Q, s => wp P T c (Ex.block id Q) s
  | .loop c, Q, s => ∃ I : Nat → St → Prop, (∃ k s0, Sim s s0 ∧ I k s0) ∧ ∀ k s, I k s → wp P T c (Ex.seq (fun s' => ∃ k' s2, k' < k ∧ Sim s' s2 ∧ I k' s2) Q) s
  | .exit id, Q, s => Q (.exit id) s
  | .ret, Q, s => Q .ret s
  | _, _, _ => False

def exOf : Exit → Option Ex
  | .normal => some .normal
  | .exit id => some (.exit id)
  | .ret => some .ret
  | _ => none

/-- CODE. -/
theorem wp_sound (hm : P.follows .mixedOrders = true) : ∀ (c : Code), codeOk n c = true → ∀ (Q : Ex → St → Prop) (s : St) (a : Act) (w : World) (loc : Loc) (R : Exit → Act → World → Prop),
    wp P T c Q s → Inv P T n w0 l0 s a w loc → (∀ e x s' a' w' loc', exOf e = some x → Q x s' → Inv P T n w0 l0 s' a' w' loc' → R e a' w') → c.wp P R a w := by
  intro c
  induction c with
  | skip => intro hcd Q s a w loc R h hi hR; exact wp_skip (hR _ _ _ _ _ _ rfl h hi)
  | region id ops draw =>
    intro hcd Q s a w loc R hk hi hR
    simp only [codeOk, Bool.and_eq_true] at hcd
    obtain ⟨hd, hok⟩ := hcd
    cases draw with
    | false =>
      simp only [wp] at hk
      refine wp_region ?_
      rw [List.range_eq_range']
      exact ops_sound hd (fun s' a' w' loc' hk hi => hR _ _ _ _ _ _ rfl hk hi) ops.size 0 s a w loc (by omega) (by simpa using hk) hi
    | true =>
      simp only [Bool.not_true, Bool.false_or] at hok
      simp only [wp] at hk
      cases hsq : seqOk ops <;> simp only [hsq, cond_true, cond_false, Bool.true_or, Bool.false_or] at hok hk
      · exact draw_sound hm hd hok hk (fun s' a' w' loc' hk hi => hR _ _ _ _ _ _ rfl hk hi) hi
      · have h0 : drawOk ops (befs ops) 0 = true := by
          unfold seqOk at hsq
          simp only [Bool.and_eq_true] at hsq
          exact hsq.2
        refine draw_sound hm hd h0 (K := Q .normal) ?_ (fun s' a' w' loc' hk hi => hR _ _ _ _ _ _ rfl hk hi) hi
        have conv : ∀ l : List Oper, drawWp P T ops (befs ops) 0 s.c 0 l (Q .normal) s = opsWp P T ops l (Q .normal) s := by
          intro l
          cases l with
          | nil => rfl
          | cons o r => simp [drawWp, blt_eq]
        rw [conv]; exact hk
  | seq x y ihx ihy =>
    intro hcd Q s a w loc R h hi hR
    simp only [codeOk, Bool.and_eq_true] at hcd
    refine wp_seq (ihx hcd.1 _ s a w loc _ h hi ?_)
    intro e ex s' a' w' loc' he hq hi'
    cases e with
    | normal => cases he; exact ihy hcd.2 _ _ _ _ _ _ hq hi' hR
    | exit id => cases he; exact hR _ _ _ _ _ _ rfl hq hi'
    | ret => cases he; exact hR _ _ _ _ _ _ rfl hq hi'
    | _ => cases he
  | cond c x y ihx ihy =>
    intro hcd Q s a w loc R h hi hR
    simp only [codeOk, Bool.and_eq_true] at hcd
    simp only [wp] at h
    have hc := hi.ev c
    split at h
    · rename_i b hb
      rw [hb] at hc
      simp only [Rep] at hc
      refine wp_cond hc.1 ?_
      cases b
      · exact ihy hcd.2 _ _ _ _ _ _ h hi hR
      · exact ihx hcd.1 _ _ _ _ _ _ h hi hR
    · exact h.elim
  | block id c ih =>
    intro hcd Q s a w loc R h hi hR
    simp only [codeOk] at hcd
    refine wp_block (ih hcd _ s a w loc _ h hi ?_)
    intro e ex s' a' w' loc' he hq hi'
    cases e with
    | normal => cases he; exact hR _ _ _ _ _ _ rfl hq hi'
    | exit id' =>
      cases he
      simp only [Ex.block] at hq
      simp only [Exit.inBlock]
      by_cases hid : id' = id
      · have : (id' == id) = true := by simpa using hid
        rw [this] at hq
        simp only [hid, if_true]
        exact hR _ _ _ _ _ _ rfl hq hi'
      · have : (id' == id) = false := by simpa using hid
        rw [this] at hq
        simp only [hid, if_false]
        exact hR _ _ _ _ _ _ rfl hq hi'
    | ret => cases he; exact hR _ _ _ _ _ _ rfl hq hi'
    | _ => cases he
  | loop c ih =>
    intro hcd Q s a w loc R h hi hR
    simp only [codeOk] at hcd
    obtain ⟨I, ⟨k, s0, hsim, hk⟩, hround⟩ := h
    obtain ⟨loc0, hi⟩ := hsim _ _ _ _ _ _ _ _ hi
    refine wp_loop_ghost (fun k a w => ∃ s loc, I k s ∧ Inv P T n w0 l0 s a w loc) k ⟨s0, loc0, hk, hi⟩ ?_
    rintro k a w ⟨s, loc, hI, hi⟩
    refine ih hcd _ s a w loc _ (hround k s hI) hi ?_
    intro e ex s' a' w' loc' he hq hi'
    cases e with
    | normal =>
      cases he
      obtain ⟨k', s2, hk', hsim', hI'⟩ := hq
      obtain ⟨loc2, hi2⟩ := hsim' _ _ _ _ _ _ _ _ hi'
      exact ⟨k', hk', s2, loc2, hI', hi2⟩
    | exit id => cases he; exact hR _ _ _ _ _ _ rfl hq hi'
    | ret => cases he; exact hR _ _ _ _ _ _ rfl hq hi'
    | _ => cases he
  | exit id => intro hcd Q s a w loc R h hi hR; exact wp_exit (hR _ _ _ _ _ _ rfl h hi)
  | ret => intro hcd Q s a w loc R h hi hR; exact wp_ret (hR _ _ _ _ _ _ rfl h hi)
  | _ => intro hcd Q s a w loc R h hi hR; exact h.elim

end
end Go.V
