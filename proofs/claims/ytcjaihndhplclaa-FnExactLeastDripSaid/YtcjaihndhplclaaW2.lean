import Derived.Test.YtcjaihndhplclaaW1
import Derived.Lib.ConvBytes
import Derived.Laws.BytesString
import Derived.Laws.MakeOwn
import Derived.Laws.Append
import Derived.Laws.Slices
set_option linter.unusedVariables false
set_option linter.unusedSimpArgs false
/- The abstract states are sound, third part: each operation by itself. -/
set_option linter.unusedVariables false
set_option linter.unusedSimpArgs false
set_option linter.unusedSectionVars false
namespace Go.V
variable [Globs]

section
variable {P : Program} {T : Types} {w : World} {base : Nat} {loc : Loc}

theorem asAddr_run {a : Addr} : (asAddr (.pointer (some a))).run P w = .ok a w := rfl

theorem fieldAddrK_sound (hT : TOk P T) {t : TypeId} {x : D} {f : Nat} {K : D → Prop} {y : Value} (h : fieldAddrK T t x f K) (hx : Rep w base loc x y) :
    ∃ d z, K d ∧ (Instr.fieldAt t y f).run P w = .ok z w ∧ Rep w base loc d z := by
  unfold fieldAddrK at h
  split at h
  · rename_i fs sz bs z hi
    obtain ⟨fields, hu, hfs⟩ := (hT t _ hi).und
    split at h
    · rename_i fo ft hf
      have hff : ∃ F : Field, fields[f]? = some F ∧ F.offset = fo ∧ F.type = ft := by
        rw [← hfs, List.getElem?_map] at hf
        cases hg : fields.toList[f]? with
        | none => simp [hg] at hf
        | some F =>
          simp only [hg, Option.map_some, Option.some.injEq, Prod.mk.injEq] at hf
          exact ⟨F, by simpa using hg, hf.1, hf.2⟩
      obtain ⟨F, hF, rfl, rfl⟩ := hff
      split at h
      · rename_i i hti
        split at h
        · exact h.elim
        · rename_i n hn
          have hne : ¬ i.size = 0 := by omega
          have key : ∀ b o, (Instr.fieldAt t (.pointer (some ⟨b, o, none⟩)) f).run P w = .ok (.pointer (some ⟨b, o + F.offset, none⟩)) w := by
            intro b o
            simp [Instr.fieldAt, run_under hu, hF, Instr.sureAddr, fieldPlace, run_size hT hti, hne, addr_add]
          split at h
          · rename_i id off
            simp only [Rep] at hx
            obtain ⟨b, n', h1, rfl⟩ := hx
            exact ⟨_, _, h, key _ _, by simp only [Rep]; exact ⟨b, n', h1, rfl⟩⟩
          · rename_i m c off
            simp only [Rep] at hx
            obtain ⟨b, o, xs, rfl, h2⟩ := hx
            exact ⟨_, _, h, key _ _, by simp only [Rep]; exact ⟨b, o, xs, by rw [Nat.add_assoc], h2⟩⟩
          · exact h.elim
      · exact h.elim
    · exact h.elim
  · exact h.elim

theorem fieldK_sound (hT : TOk P T) {t : TypeId} {x : D} {f : Nat} {K : D → Prop} {y : Value} (h : fieldK T t x f K) (hx : Rep w base loc x y) :
    ∃ d z, K d ∧ (Instr.field t y f).run P w = .ok z w ∧ Rep w base loc d z := by
  unfold fieldK at h
  split at h
  · rename_i fs sz bs z hi
    obtain ⟨fields, hu, hfs⟩ := (hT t _ hi).und
    split at h
    · rename_i fo ft hf
      have hff : ∃ F : Field, fields[f]? = some F ∧ F.offset = fo ∧ F.type = ft := by
        rw [← hfs, List.getElem?_map] at hf
        cases hg : fields.toList[f]? with
        | none => simp [hg] at hf
        | some F =>
          simp only [hg, Option.map_some, Option.some.injEq, Prod.mk.injEq] at hf
          exact ⟨F, by simpa using hg, hf.1, hf.2⟩
      obtain ⟨F, hF, rfl, rfl⟩ := hff
      have plain : partK T F.type x F.offset K → ∃ d z, K d ∧ (Instr.field t y f).run P w = .ok z w ∧ Rep w base loc d z := by
        intro h
        have hagg : ∃ xs, y = .agg ⟨xs⟩ := by
          cases x with
          | v x' =>
            simp only [Rep] at hx
            obtain ⟨rfl, _⟩ := hx
            cases y with
            | agg a => exact ⟨a.toList, rfl⟩
            | _ => simp [partK, loadK, subK, getK] at h; split at h <;> (try split at h) <;> exact h.elim
          | agg ds => simp only [Rep] at hx; obtain ⟨vs, rfl, _⟩ := hx; exact ⟨vs, rfl⟩
          | _ => simp [partK, loadK, subK, getK] at h; split at h <;> (try split at h) <;> exact h.elim
        obtain ⟨xs, rfl⟩ := hagg
        obtain ⟨d, z, h1, h2, h3⟩ := partK_sound hT h hx
        exact ⟨d, z, h1, by simp [Instr.field, run_under hu, hF, asAgg, h2], h3⟩
      split at h
      · rename_i ds
        rcases h with h | h
        · exact plain h
        · unfold flatK at h
          split at h
          · rename_i i hi'
            obtain ⟨l, ⟨hag, hle, hpl⟩, hK⟩ := h
            simp only [Rep] at hx
            obtain ⟨vs, rfl, hr, hone⟩ := hx
            have hs := (hr.drop F.offset).take i.size
            have hl := hs.of_plain hpl
            refine ⟨_, .agg ⟨l⟩, hK, ?_, ?_⟩
            · simp [Instr.field, run_under hu, hF, asAgg, part, run_isAgg hT hi', hag, run_size hT hi', hl]
            · simp only [Rep, true_and, Flat]
              rw [← hl]
              simp only [List.all_eq_true] at hone ⊢
              exact fun x hx => hone x (List.mem_of_mem_drop (List.mem_of_mem_take hx))
          · exact h.elim
      · exact plain h
    · exact h.elim
  · exact h.elim

theorem indexAddrK_sound (hT : TOk P T) {t : TypeId} {x i : D} {K : D → Prop} {y z : Value} (h : indexAddrK T t x i K) (hx : Rep w base loc x y) (hi : Rep w base loc i z) :
    ∃ d u, K d ∧ (Instr.indexAt t y z).run P w = .ok u w ∧ Rep w base loc d u := by
  unfold indexAddrK at h
  split at h
  · rename_i k n
    simp only [Rep] at hi
    obtain ⟨rfl, _⟩ := hi
    split at h
    · rename_i len e sz bs zr hti
      have hu := (hT t _ hti).und
      simp only [UOk] at hu
      split at h
      · rename_i ti hte
        obtain ⟨⟨h0, h1⟩, h⟩ := h
        have key : ∀ b o, (Instr.indexAt t (.pointer (some ⟨b, o, none⟩)) (.int k n)).run P w = .ok (.pointer (some ⟨b, o + n.toNat * ti.size, none⟩)) w := by
          intro b o
          simp [Instr.indexAt, asIntOf, run_under hu, Instr.sureAddr, h0, h1, run_size hT hte, addr_add]
        split at h
        · rename_i id off
          simp only [Rep] at hx
          obtain ⟨b, n', h2, rfl⟩ := hx
          exact ⟨_, _, h, key _ _, by simp only [Rep]; exact ⟨b, n', h2, rfl⟩⟩
        · rename_i m c off
          simp only [Rep] at hx
          obtain ⟨b, o, xs, rfl, h2⟩ := hx
          exact ⟨_, _, h, key _ _, by simp only [Rep]; exact ⟨b, o, xs, by rw [Nat.add_assoc], h2⟩⟩
        · exact h.elim
      · exact h.elim
    · rename_i e sz bs zr hti
      have hu := (hT t _ hti).und
      simp only [UOk] at hu
      split at h
      · rename_i ti hte
        split at h
        · rename_i f s id off len
          rw [asrt_iff] at h
          obtain ⟨hsz, ⟨h0, h1⟩, h⟩ := h
          obtain rfl : s = ti.size := by simpa using hsz
          simp only [Rep] at hx
          obtain ⟨a, cap, l, n', rfl, h3, h4, h5, h6, h7⟩ := hx
          cases l with
          | none => omega
          | some b =>
            obtain ⟨o, rfl, h8, _⟩ := h7
            have ho : o = off := h8 (by omega)
            subst ho
            exact ⟨_, .pointer (some ⟨b, o + n.toNat * ti.size, none⟩), h, by simp [Instr.indexAt, asIntOf, run_under hu, h0, h1, run_size hT hte, addr_add], by simp only [Rep]; exact ⟨b, n', h4, rfl⟩⟩
        · rename_i m s c len
          rw [asrt_iff] at h
          obtain ⟨hsz, ⟨h0, h1⟩, h⟩ := h
          simp only [Bool.and_eq_true, beq_iff_eq, bne_iff_ne, ne_eq] at hsz
          obtain ⟨rfl, hs⟩ := hsz
          simp only [Rep] at hx
          obtain ⟨a, cap, xs, rfl, h3, h4, h5, h6⟩ := hx
          rcases h6 with h6 | ⟨b, o, rfl, h7⟩
          · exfalso
            rcases Nat.mul_eq_zero.1 h6 with h6 | h6 <;> omega
          · refine ⟨_, .pointer (some ⟨b, o + n.toNat * ti.size, none⟩), h, by simp [Instr.indexAt, asIntOf, run_under hu, h0, h1, run_size hT hte, addr_add], ?_⟩
            simp only [Rep]
            exact ⟨b, o, xs, rfl, h7.1, h7.2.1, h7.2.2, h4⟩
        · exact h.elim
      · exact h.elim
    · exact h.elim
  · exact h.elim

theorem indexK_sound (hT : TOk P T) {t : TypeId} {x i : D} {K : D → Prop} {y z : Value} (h : indexK T t x i K) (hx : Rep w base loc x y) (hi : Rep w base loc i z) :
    ∃ d u, K d ∧ (Instr.index t y z).run P w = .ok u w ∧ Rep w base loc d u := by
  unfold indexK at h
  split at h
  · rename_i k n
    simp only [Rep] at hi
    obtain ⟨rfl, _⟩ := hi
    split at h
    · rename_i len e sz bs zr hti
      have hu := (hT t _ hti).und
      simp only [UOk] at hu
      split at h
      · rename_i ti hte
        obtain ⟨⟨h0, h1⟩, h⟩ := h
        have hagg : ∃ xs, y = .agg ⟨xs⟩ := by
          cases x with
          | v x' =>
            simp only [Rep] at hx
            obtain ⟨rfl, _⟩ := hx
            cases y with
            | agg a => exact ⟨a.toList, rfl⟩
            | _ => simp [partK, loadK, subK, getK] at h; split at h <;> (try split at h) <;> exact h.elim
          | agg ds => simp only [Rep] at hx; obtain ⟨vs, rfl, _⟩ := hx; exact ⟨vs, rfl⟩
          | _ => simp [partK, loadK, subK, getK] at h; split at h <;> (try split at h) <;> exact h.elim
        obtain ⟨xs, rfl⟩ := hagg
        obtain ⟨d, u, g1, g2, g3⟩ := partK_sound hT h hx
        exact ⟨d, u, g1, by simp [Instr.index, asIntOf, run_under hu, h0, h1, run_size hT hte, g2], g3⟩
      · exact h.elim
    · rename_i sz bs zr hti
      have hu := (hT t _ hti).und
      simp only [UOk] at hu
      split at h
      · rename_i b
        obtain ⟨⟨h0, h1⟩, h⟩ := h
        simp only [Rep] at hx
        obtain ⟨rfl, _⟩ := hx
        have hlt : n.toNat < b.size := by omega
        have hg : b[n.toNat]? = some b[n.toNat] := by simp [hlt]
        refine ⟨_, .int .u8 (b[n.toNat]).toNat, h, ?_, ?_⟩
        · simp only [Instr.index, Sem.run_bind, asIntOf, Sem.run_pure, Result.andThen_ok, run_under hu, h0, if_true, hg]
        · simp only [Rep, byteAt, Flat, and_true, Value.int.injEq, true_and]
          have : b.data.toList.getD n.toNat 0 = b[n.toNat] := by
            have : n.toNat < b.data.toList.length := by simpa using hlt
            rw [List.getD_eq_getElem?_getD, List.getElem?_eq_getElem this, Option.getD_some]; rfl
          rw [this]
      · exact h.elim
    · exact h.elim
  · exact h.elim

theorem guard_int (op : BinOp) (t : TypeId) (x y : Operand) (k k' : IntKind) (a b : Int) : (eqGuard op t x y (.int k a) (.int k' b)).run P w = .ok () w := by
  unfold eqGuard; cases op <;> rfl
theorem guard_str (op : BinOp) (t : TypeId) (x y : Operand) (a b : ByteArray) : (eqGuard op t x y (.string a) (.string b)).run P w = .ok () w := by
  unfold eqGuard; cases op <;> rfl

theorem guard_bool (op : BinOp) (t : TypeId) (x y : Operand) (a b : Bool) : (eqGuard op t x y (.bool a) (.bool b)).run P w = .ok () w := by
  unfold eqGuard; cases op <;> rfl
theorem equal_bool {t : TypeId} (h : P.underlying t = some .bool) (a b : Bool) : (Op.equal t (.bool a) (.bool b)).run P w = .ok (a == b) w := by
  unfold Op.equal Op.maxDepth Op.equalIn
  simp [run_under h]

theorem guard_slice (op : BinOp) (t : TypeId) (x y : Operand) (a b : Option Addr) (l c l' c' : Nat) : (eqGuard op t x y (.slice a l c) (.slice b l' c')).run P w = .ok () w := by
  unfold eqGuard; cases op <;> rfl
theorem equal_nil {t e : TypeId} (h : P.underlying t = some (.slice e)) (a : Option Addr) (l c : Nat) : (Op.equal t (.slice a l c) (.slice none 0 0)).run P w = .ok a.isNone w := by
  unfold Op.equal Op.maxDepth Op.equalIn
  cases a <;> simp [run_under h]

theorem binK_sound (hT : TOk P T) {op : BinOp} {t : TypeId} {x y : D} {K : D → Prop} {u v : Value} (ox oy : Operand) (h : binK P T op t x y K) (hx : Rep w base loc x u) (hy : Rep w base loc y v) :
    ∃ d z, K d ∧ (do eqGuard op t ox oy u v; binOp op t u v : Sem Value).run P w = .ok z w ∧ Rep w base loc d z := by
  unfold binK at h
  split at h
  · rename_i k a k' b
    simp only [Rep] at hx hy
    obtain ⟨rfl, _⟩ := hx
    obtain ⟨rfl, _⟩ := hy
    have fin : ∀ z, Flat z = true → K (.v z) → (binOp op t (.int k a) (.int k' b)).run P w = .ok z w → ∃ d z, K d ∧ (do eqGuard op t ox oy (.int k a) (.int k' b); binOp op t (.int k a) (.int k' b) : Sem Value).run P w = .ok z w ∧ Rep w base loc d z :=
      fun z hz hk hr => ⟨_, z, hk, by simp [guard_int, hr], by simp only [Rep, true_and]; exact hz⟩
    split at h
    · obtain ⟨h0, h⟩ := h
      have h0' : ¬ b < 0 := by omega
      exact fin _ rfl h (by simp [binOp, Op.shift, h0'])
    · obtain ⟨h0, h⟩ := h
      have h0' : ¬ b < 0 := by omega
      exact fin _ rfl h (by simp [binOp, Op.shift, h0'])
    · rw [asrt_iff] at h
      obtain ⟨hkk, h⟩ := h
      obtain rfl : k = k' := by simpa using hkk
      split at h
      · exact fin _ rfl h (by simp [binOp, Op.intArith])
      · exact fin _ rfl h (by simp [binOp, Op.intArith])
      · exact fin _ rfl h (by simp [binOp, Op.intArith])
      · exact fin _ rfl h.2 (by simp [binOp, Op.intDiv, h.1])
      · exact fin _ rfl h.2 (by simp [binOp, Op.intDiv, h.1])
      · exact fin _ rfl h (by simp [binOp, Op.intBits])
      · exact fin _ rfl h (by simp [binOp, Op.intBits])
      · exact fin _ rfl h (by simp [binOp, Op.intBits])
      · exact fin _ rfl h (by simp [binOp, Op.intBits])
      · split at h
        · rename_i r hr
          refine fin _ rfl h ?_
          cases op <;> first | (simp only [intCmpB, reduceCtorEq] at hr; done) | (simp only [intCmpB, Option.some.injEq] at hr; subst hr; simp [binOp, Op.intCmp])
        · exact h.elim
  · rename_i a b
    simp only [Rep] at hx hy
    obtain ⟨rfl, _⟩ := hx
    obtain ⟨rfl, _⟩ := hy
    have fin : ∀ z, Flat z = true → K (.v z) → (binOp op t (.string a) (.string b)).run P w = .ok z w → ∃ d z, K d ∧ (do eqGuard op t ox oy (.string a) (.string b); binOp op t (.string a) (.string b) : Sem Value).run P w = .ok z w ∧ Rep w base loc d z :=
      fun z hz hk hr => ⟨_, z, hk, by simp [guard_str, hr], by simp only [Rep, true_and]; exact hz⟩
    split at h
    · obtain ⟨h0, h⟩ := h
      refine fin _ rfl h ?_
      have : ¬ (((a.size + b.size : Nat) : Int) > IntKind.i64.max) := by omega
      simp only [binOp, Op.stringOp, if_neg this, Sem.run_pure]
    · split at h
      · rename_i r hr
        refine fin _ rfl h ?_
        cases op <;> first | (simp only [strCmpB, reduceCtorEq] at hr; done) | (simp only [strCmpB, Option.some.injEq] at hr; subst hr; simp [binOp, Op.stringOp])
      · exact h.elim
  · rename_i a b
    simp only [Rep] at hx hy
    obtain ⟨rfl, _⟩ := hx
    obtain ⟨rfl, _⟩ := hy
    split at h
    · obtain ⟨r, he, h⟩ := h
      obtain ⟨e1, e2⟩ := he w
      exact ⟨_, .bool r, h, by simp only [Sem.run_bind, e1, Result.andThen_ok, binOp, e2, Sem.run_pure], by simp [Rep, Flat]⟩
    · obtain ⟨r, he, h⟩ := h
      obtain ⟨e1, e2⟩ := he w
      exact ⟨_, .bool (!r), h, by simp only [Sem.run_bind, e1, Result.andThen_ok, binOp, e2, Sem.run_pure], by simp [Rep, Flat]⟩
    · exact h.elim
  · rename_i a b
    simp only [Rep] at hx hy
    obtain ⟨rfl, _⟩ := hx
    obtain ⟨rfl, _⟩ := hy
    split at h
    · rename_i ht
      exact ⟨_, .bool (a == b), h, by simp only [Sem.run_bind, guard_bool, Result.andThen_ok, binOp, equal_bool (hT t _ ht).und, Sem.run_pure], by simp [Rep, Flat]⟩
    · rename_i ht
      exact ⟨_, .bool (!(a == b)), h, by simp only [Sem.run_bind, guard_bool, Result.andThen_ok, binOp, equal_bool (hT t _ ht).und, Sem.run_pure], by simp [Rep, Flat]⟩
    · exact h.elim
  · rename_i a _ _
    simp only [Rep] at hx hy
    obtain ⟨rfl, _⟩ := hx
    obtain ⟨rfl, _⟩ := hy
    split at h
    · rename_i ht
      exact ⟨_, .bool a.isNone, h, by simp only [Sem.run_bind, guard_slice, Result.andThen_ok, binOp, equal_nil (hT t _ ht).und, Sem.run_pure], by simp [Rep, Flat]⟩
    · exact h.elim
  · rename_i sz _ len
    simp only [Rep] at hx hy
    obtain ⟨a, cap, xs, rfl, _, _, _, h6⟩ := hx
    obtain ⟨rfl, _⟩ := hy
    split at h
    · rename_i ht
      obtain ⟨h0, h⟩ := h
      rcases h6 with h6 | ⟨b, o, rfl, _⟩
      · exact absurd h6 h0
      · exact ⟨_, .bool false, h, by simp only [Sem.run_bind, guard_slice, Result.andThen_ok, binOp, equal_nil (hT t _ ht).und, Sem.run_pure]; rfl, by simp [Rep, Flat]⟩
    · exact h.elim
  · exact h.elim

theorem unK_sound {op : UnOp} {x : D} {K : D → Prop} {u : Value} (h : unK op x K) (hx : Rep w base loc x u) :
    ∃ d z, K d ∧ (Op.unary op u).run P w = .ok z w ∧ Rep w base loc d z := by
  unfold unK at h
  split at h
  all_goals first
    | exact h.elim
    | (simp only [Rep] at hx
       obtain ⟨rfl, _⟩ := hx
       refine ⟨_, _, h, rfl, ?_⟩
       simp [Rep, Flat])

theorem optI_run {s : St} {a : Act} (hev : ∀ x, Rep w base loc (s.ev x) (a.eval x)) {o : Option Operand} {l : Option Int} (h : optI s o = some l) :
    (o.map a.eval) = l.map (fun n => Value.int .i64 n) ∨ ∃ k n, o.map a.eval = some (.int k n) ∧ l = some n := by
  cases o with
  | none => simp only [optI, Option.some.injEq] at h; subst h; exact .inl rfl
  | some x =>
    simp only [optI] at h
    split at h
    · rename_i k n hx
      simp only [Option.some.injEq] at h
      subst h
      have := hev x
      rw [hx] at this
      simp only [Rep] at this
      exact .inr ⟨k, n, by simp [this.1], rfl⟩
    · simp at h

theorem run_bounds (isSlice : Bool) (len cap : Nat) {lo hi : Option Value} {l h : Option Int}
    (hl : lo = none ∧ l = none ∨ ∃ k n, lo = some (.int k n) ∧ l = some n) (hh : hi = none ∧ h = none ∨ ∃ k n, hi = some (.int k n) ∧ h = some n)
    (h0 : 0 ≤ l.getD 0) (h1 : l.getD 0 ≤ h.getD len) (h2 : h.getD len ≤ cap) :
    (Instr.sliceBounds isSlice len cap lo hi none).run P w = .ok ((l.getD 0).toNat, (h.getD (len : Int)).toNat, cap) w := by
  rcases hl with ⟨rfl, rfl⟩ | ⟨k, n, rfl, rfl⟩ <;> rcases hh with ⟨rfl, rfl⟩ | ⟨k', n', rfl, rfl⟩
  · simp [Instr.sliceBounds]
  · simp only [Option.getD_some, Option.getD_none] at h0 h1 h2
    simp [Instr.sliceBounds, run_sliceBound, h1, h2]
  · simp only [Option.getD_some, Option.getD_none] at h0 h1 h2
    simp [Instr.sliceBounds, run_sliceBound, h0, h1]
  · simp only [Option.getD_some] at h0 h1 h2
    have e : ((n'.toNat : Nat) : Int) = n' := by omega
    have h3 : 0 ≤ n' := by omega
    simp [Instr.sliceBounds, run_sliceBound, h0, h1, h2, e, h3]

theorem optI_cases {s : St} {a : Act} (hev : ∀ x, Rep w base loc (s.ev x) (a.eval x)) {o : Option Operand} {l : Option Int} (h : optI s o = some l) :
    (o.map a.eval = none ∧ l = none) ∨ ∃ k n, o.map a.eval = some (.int k n) ∧ l = some n := by
  cases o with
  | none => simp only [optI, Option.some.injEq] at h; subst h; exact .inl ⟨rfl, rfl⟩
  | some x =>
    simp only [optI] at h
    split at h
    · rename_i k n hx
      simp only [Option.some.injEq] at h
      subst h
      have := hev x
      rw [hx] at this
      simp only [Rep] at this
      exact .inr ⟨k, n, by simp [this.1], rfl⟩
    · simp at h

theorem sliceK_sound (hT : TOk P T) {s : St} {a : Act} (hev : ∀ x, Rep w base loc (s.ev x) (a.eval x)) (hm : MemOk w base loc s.m) {t : TypeId} {x : D} {lo hi mx : Option Operand} {K : D → Prop} {y : Value}
    (h : sliceK T s t x lo hi mx K) (hx : Rep w base loc x y) :
    ∃ d z, K d ∧ (Instr.sliceAt t y (lo.map a.eval) (hi.map a.eval) (mx.map a.eval)).run P w = .ok z w ∧ Rep w base loc d z := by
  unfold sliceK at h
  split at h
  · rename_i sz bs zr b l hh hti hlo hhi
    have hu := (hT t _ hti).und
    simp only [UOk] at hu
    simp only [Rep] at hx
    obtain ⟨rfl, _⟩ := hx
    obtain ⟨⟨h0, h1, h2⟩, h⟩ := h
    have hb := run_bounds (P := P) (w := w) false b.size b.size (optI_cases hev hlo) (optI_cases hev hhi) h0 h1 h2
    refine ⟨_, .string (b.extract (l.getD 0).toNat (hh.getD (b.size : Int)).toNat), h, ?_, by simp only [Rep, true_and]; rfl⟩
    simp [Instr.sliceAt, Instr.slice, run_under hu, hb]
  · rename_i e sz bs zr f s' id off len l hh hti hlo hhi
    have hu := (hT t _ hti).und
    simp only [UOk] at hu
    split at h
    · rename_i i hte
      rw [asrt_iff] at h
      obtain ⟨hsz, ⟨h0, h1, h2⟩, h⟩ := h
      obtain rfl : s' = i.size := by simpa using hsz
      simp only [Rep] at hx
      obtain ⟨a0, cap, l', n', rfl, h3, h4, h5, h6, h7⟩ := hx
      have hb := run_bounds (P := P) (w := w) true len cap (optI_cases hev hlo) (optI_cases hev hhi) h0 h1 (by omega)
      refine ⟨_, sliced a0 (l.getD 0).toNat (hh.getD (len : Int)).toNat cap i.size, h, ?_, ?_⟩
      · simp [Instr.sliceAt, Instr.slice, run_under hu, hb, run_size hT hte, sliced]
      · simp only [Rep, sliced]
        have hle : (hh.getD (len : Int)).toNat ≤ len := by omega
        have hlh : (l.getD 0).toNat ≤ (hh.getD (len : Int)).toNat := by omega
        refine ⟨_, _, l', n', rfl, by omega, h4, ?_, by simp, ?_⟩
        · have : (l.getD 0).toNat * i.size + ((hh.getD (len : Int)).toNat - (l.getD 0).toNat) * i.size ≤ len * i.size := by
            rw [← Nat.add_mul]; exact Nat.mul_le_mul_right _ (by omega)
          omega
        · cases l' with
          | none => simp only at h7 ⊢; omega
          | some b =>
            obtain ⟨o, rfl, h8, _⟩ := h7
            by_cases hc : cap = (l.getD 0).toNat
            · simp only [hc, if_true]
              exact ⟨o, rfl, fun hne => by omega, by simp⟩
            · simp only [hc, if_false]
              refine ⟨o + (l.getD 0).toNat * i.size, by simp [addr_add], fun hne => ?_, by simp⟩
              rw [h8 (by omega)]
    · exact h.elim
  · rename_i e sz bs zr m s' c len l hh hti hlo hhi
    have hu := (hT t _ hti).und
    simp only [UOk] at hu
    split at h
    · rename_i i hte
      rw [asrt_iff] at h
      obtain ⟨hsz, ⟨h0, h1, h2⟩, h⟩ := h
      obtain rfl : s' = i.size := by simpa using hsz
      simp only [Rep] at hx
      obtain ⟨a0, cap, xs, rfl, h3, h4, h5, h6, _⟩ := hx
      obtain ⟨d, g1, g2, g3⟩ := subK_sound h h4
      have hb := run_bounds (P := P) (w := w) true len cap (optI_cases hev hlo) (optI_cases hev hhi) h0 h1 (by omega)
      refine ⟨_, sliced a0 (l.getD 0).toNat (hh.getD (len : Int)).toNat cap i.size, g1, ?_, ?_⟩
      · simp [Instr.sliceAt, Instr.slice, run_under hu, hb, run_size hT hte, sliced]
      · simp only [Rep, sliced]
        have hle : (hh.getD (len : Int)).toNat ≤ len := by omega
        have hlh : (l.getD 0).toNat ≤ (hh.getD (len : Int)).toNat := by omega
        refine ⟨_, _, _, rfl, by omega, g3, by simp; omega, ?_, (by simp)⟩
        by_cases hz : ((hh.getD (len : Int)).toNat - (l.getD 0).toNat) * i.size = 0
        · exact .inl hz
        · have hz1 : (hh.getD (len : Int)).toNat - (l.getD 0).toNat ≠ 0 := fun e => hz (by simp [e])
          have hz2 : i.size ≠ 0 := fun e => hz (by simp [e])
          rcases h6 with h6 | ⟨b, o, rfl, g4, g5, g6⟩
          · exfalso; rcases Nat.mul_eq_zero.1 h6 with h6 | h6 <;> omega
          · right
            have hc : ¬ cap = (l.getD 0).toNat := by omega
            simp only [hc, if_false]
            exact ⟨b, _, by simp [addr_add], g4.sub _ _ g2, g5, (by simp)⟩
    · exact h.elim
  · rename_i n e sz bs zr id off l hh hti hlo hhi
    have hu := (hT t _ hti).und
    simp only [UOk] at hu
    split at h
    · rename_i i c hte hc
      obtain ⟨⟨h0, h1, h2, hw⟩, h⟩ := h
      simp only [Rep] at hx
      obtain ⟨b, n', g1, rfl⟩ := hx
      obtain ⟨l', xs, k1, k2, k3⟩ := hm id c hc
      rw [g1] at k1
      simp only [Option.some.injEq, Prod.mk.injEq] at k1
      obtain ⟨rfl, rfl⟩ := k1
      have hwx : (widC c).getD 0 ≤ xs.length := by
        cases c with
        | v x' =>
          cases x' with
          | agg arr => simp only [Rep, Value.agg.injEq] at k2; obtain ⟨rfl, _⟩ := k2; simp [widC]
          | _ => simp [widC]
        | agg ds => simp only [Rep, Value.agg.injEq, Array.mk.injEq] at k2; obtain ⟨vs, rfl, k4, _⟩ := k2; simp [widC, k4.length]
        | _ => simp [widC]
      have hb := run_bounds (P := P) (w := w) false n n (optI_cases hev hlo) (optI_cases hev hhi) h0 h1 h2
      have hle : (hh.getD (n : Int)).toNat ≤ n := by omega
      have hlh : (l.getD 0).toNat ≤ (hh.getD (n : Int)).toNat := by omega
      refine ⟨_, .slice (some (if n = (l.getD 0).toNat then ⟨b, off, none⟩ else ⟨b, off + (l.getD 0).toNat * i.size, none⟩)) ((hh.getD (n : Int)).toNat - (l.getD 0).toNat) (n - (l.getD 0).toNat), h, ?_, ?_⟩
      · simp [Instr.sliceAt, run_under hu, Instr.sureAddr, hb, run_size hT hte, addr_add]
      · simp only [Rep]
        refine ⟨_, _, some b, xs.length, rfl, by omega, g1, ?_, by simp, ?_⟩
        · have : (l.getD 0).toNat * i.size + ((hh.getD (n : Int)).toNat - (l.getD 0).toNat) * i.size ≤ n * i.size := by
            rw [← Nat.add_mul]; exact Nat.mul_le_mul_right _ (by omega)
          omega
        · by_cases hcn : n = (l.getD 0).toNat
          · rw [if_pos hcn]
            exact ⟨off, rfl, fun hne => by omega, by simp⟩
          · rw [if_neg hcn]
            exact ⟨_, rfl, fun _ => rfl, by simp⟩
    · exact h.elim
  · rename_i n e sz bs zr m c off l hh hti hlo hhi
    have hu := (hT t _ hti).und
    simp only [UOk] at hu
    split at h
    · rename_i i hte
      obtain ⟨⟨h0, h1, h2⟩, h⟩ := h
      simp only [Rep] at hx
      obtain ⟨b, o, xs, rfl, k1, k2, k3, k4⟩ := hx
      obtain ⟨d, g1, g2, g3⟩ := subK_sound h k4
      have hb := run_bounds (P := P) (w := w) false n n (optI_cases hev hlo) (optI_cases hev hhi) h0 h1 h2
      have hle : (hh.getD (n : Int)).toNat ≤ n := by omega
      have hlh : (l.getD 0).toNat ≤ (hh.getD (n : Int)).toNat := by omega
      refine ⟨_, .slice (some (if n = (l.getD 0).toNat then ⟨b, o + off, none⟩ else ⟨b, o + off + (l.getD 0).toNat * i.size, none⟩)) ((hh.getD (n : Int)).toNat - (l.getD 0).toNat) (n - (l.getD 0).toNat), g1, ?_, ?_⟩
      · simp [Instr.sliceAt, run_under hu, Instr.sureAddr, hb, run_size hT hte, addr_add]
      · simp only [Rep]
        refine ⟨_, _, _, rfl, by omega, g3, by rw [List.length_take, List.length_drop]; omega, ?_, (by simp)⟩
        by_cases hz : ((hh.getD (n : Int)).toNat - (l.getD 0).toNat) * i.size = 0
        · exact .inl hz
        · right
          have hz1 : (hh.getD (n : Int)).toNat - (l.getD 0).toNat ≠ 0 := fun e => hz (by simp [e])
          have hcn : ¬ n = (l.getD 0).toNat := by omega
          rw [if_neg hcn, Nat.add_assoc]
          exact ⟨b, _, rfl, k1.sub _ _ g2, k2, (by simp)⟩
    · exact h.elim
  · exact h.elim

end
end Go.V
/- The abstract states are sound, fourth part: what makes memory, and calls. -/
set_option linter.unusedVariables false
set_option linter.unusedSimpArgs false
set_option linter.unusedSectionVars false
namespace Go.V
variable [Globs]

section
variable {P : Program} {T : Types} {w : World} {base : Nat} {loc : Loc}

theorem splice_set {α : Type} (l : List α) (k : Nat) (v : α) (rest : List α) (hk : k < l.length) : splice (l.set k v) (k + 1) rest = splice l k (v :: rest) := by
  unfold splice
  rw [List.take_set, List.drop_set_of_lt (by omega)]
  have : (l.take (k + 1)).set k v = l.take k ++ [v] := by
    rw [List.take_succ_eq_append_getElem hk, List.set_append_right _ _ (by simp; omega)]
    simp
    have : k - min k l.length = 0 := by omega
    rw [this]; rfl
  rw [this]
  simp [Nat.add_assoc, Nat.add_comm 1]

theorem foldl_set (off : Nat) : ∀ (us : List Value) (k : Nat) (cells : Array Value), off + k + us.length ≤ cells.size →
    ((us.zipIdx k).foldl (fun (cs : Array Value) (p : Value × Nat) => cs.setIfInBounds (off + p.2) p.1) cells).toList = splice cells.toList (off + k) us
  | [], k, cells, h => by simp [splice]
  | u :: us, k, cells, h => by
    simp only [List.zipIdx_cons, List.foldl_cons]
    simp only [List.length_cons] at h
    rw [foldl_set off us (k + 1) _ (by simp; omega)]
    rw [Array.toList_setIfInBounds]
    have := splice_set cells.toList (off + k) u us (by simp; omega)
    rw [← this]
    rfl

theorem all_splice {p : Value → Bool} {xs ys : List Value} (off : Nat) (h : xs.all p = true) (h' : ys.all p = true) : (splice xs off ys).all p = true := by
  simp only [List.all_eq_true] at h h' ⊢
  intro x hx
  unfold splice at hx
  rcases List.mem_append.1 hx with hx | hx
  · rcases List.mem_append.1 hx with hx | hx
    · exact h x (List.mem_of_mem_take hx)
    · exact h' x hx
  · exact h x (List.mem_of_mem_drop hx)

theorem splice_length {α : Type} (xs ys : List α) (off : Nat) (h : off + ys.length ≤ xs.length) : (splice xs off ys).length = xs.length := by
  unfold splice; simp; omega

theorem ev_parts {s : St} {a : Act} (hev : ∀ x, Rep w base loc (s.ev x) (a.eval x)) :
    ∀ (parts : List (Nat × Operand)), ∀ p ∈ parts.map (fun p => (p.1, s.ev p.2, a.eval p.2)), Rep w base loc p.2.1 p.2.2 := by
  intro parts p hp
  obtain ⟨q, _, rfl⟩ := List.mem_map.1 hp
  exact hev _

theorem scalar_cells {d : D} {y : Value} (h : Rep w base loc d y) (h1 : d ≠ .junk) (h2 : ∀ ds, d ≠ .tup ds) (h3 : ∀ ds, d ≠ .agg ds) (h4 : ∀ a, d ≠ .v (.agg a)) : y.cells = #[y] ∧ y.oneCell' = true := by
  cases d with
  | junk => exact absurd rfl h1
  | tup ds => exact absurd rfl (h2 ds)
  | agg ds => exact absurd rfl (h3 ds)
  | v x =>
    simp only [Rep] at h
    obtain ⟨rfl, hf⟩ := h
    cases y with
    | agg a => exact absurd rfl (h4 a)
    | tuple a => simp [Flat] at hf
    | _ => exact ⟨rfl, rfl⟩
  | ptr id off => simp only [Rep] at h; obtain ⟨_, _, _, rfl⟩ := h; exact ⟨rfl, rfl⟩
  | slc f sz id off len => simp only [Rep] at h; obtain ⟨_, _, _, _, rfl, _⟩ := h; exact ⟨rfl, rfl⟩
  | ref m c off => simp only [Rep] at h; obtain ⟨_, _, _, rfl, _⟩ := h; exact ⟨rfl, rfl⟩
  | row m sz c len => simp only [Rep] at h; obtain ⟨_, _, _, rfl, _⟩ := h; exact ⟨rfl, rfl⟩
  | fn f a b => simp only [Rep] at h; obtain ⟨_, _, rfl, _⟩ := h; exact ⟨rfl, rfl⟩
  | mp => simp only [Rep] at h; obtain ⟨_, _, _, rfl, _⟩ := h; exact ⟨rfl, rfl⟩

theorem fill_sound {place : Nat → Option (Nat × Nat)} {s : St} {a : Act} (hev : ∀ x, Rep w base loc (s.ev x) (a.eval x)) :
    ∀ (parts : List (Nat × Operand)) (cells : List D) (vs : List Value) (ds : List D), RepL w base loc cells vs → vs.all Value.oneCell' = true →
      fillD place cells (parts.map fun p => (p.1, s.ev p.2)) = some ds →
      ∃ us, Instr.fill place ⟨vs⟩ (parts.map fun p => (p.1, a.eval p.2)) = some ⟨us⟩ ∧ RepL w base loc ds us ∧ us.all Value.oneCell' = true ∧ us.length = vs.length
  | [], cells, vs, ds, hc, h1, h => by
    simp only [List.map_nil, fillD, Option.some.injEq] at h
    subst h
    exact ⟨vs, rfl, hc, h1, rfl⟩
  | (i, x) :: parts, cells, vs, ds, hc, h1, h => by
    simp only [List.map_cons, fillD] at h
    have hx := hev x
    have hlen := hc.length
    have step : ∀ (off size : Nat) (us : List Value) (es : List D), place i = some (off, size) → (a.eval x).cells = ⟨us⟩ → us.length = size → off + size ≤ cells.length → RepL w base loc es us → us.all Value.oneCell' = true →
        fillD place (splice cells off es) (parts.map fun p => (p.1, s.ev p.2)) = some ds →
        ∃ us', Instr.fill place ⟨vs⟩ (((i, x) :: parts).map fun p => (p.1, a.eval p.2)) = some ⟨us'⟩ ∧ RepL w base loc ds us' ∧ us'.all Value.oneCell' = true ∧ us'.length = vs.length := by
      intro off size us es hp hcs hl hle hr hone hf
      obtain ⟨us', g1, g2, g3, g4⟩ := fill_sound hev parts (splice cells off es) (splice vs off us) ds (hc.splice off hr) (all_splice off h1 hone) hf
      refine ⟨us', ?_, g2, g3, by rw [g4, splice_length _ _ _ (by omega)]⟩
      simp only [List.map_cons, Instr.fill, hp, hcs]
      have hcond : (decide ((⟨us⟩ : Array Value).size ≠ size) || decide (off + (⟨us⟩ : Array Value).size > (⟨vs⟩ : Array Value).size)) = false := by
        simp [hl]; omega
      simp only [hcond, Bool.false_eq_true, if_false]
      rw [← g1]
      congr 1
      apply Array.ext'
      rw [← Array.foldl_toList]
      have := foldl_set off us 0 ⟨vs⟩ (by simp; omega)
      simpa using this
    split at h
    · simp at h
    · rename_i off size hp
      split at h
      · rename_i arr he
        rw [he] at hx
        simp only [Rep] at hx
        obtain ⟨hy, hf⟩ := hx
        cases hb : (arr.toList.length == size && Nat.ble (off + size) cells.length) <;> simp only [hb, cond_true, cond_false] at h
        · simp at h
        · simp only [Bool.and_eq_true, beq_iff_eq] at hb
          simp only [Flat] at hf
          exact step off size arr.toList _ hp (by rw [hy]; rfl) hb.1 (Nat.le_of_ble_eq_true hb.2) (.vals hf) hf h
      · rename_i es he
        rw [he] at hx
        simp only [Rep] at hx
        obtain ⟨us, hy, hr, hone⟩ := hx
        cases hb : (es.length == size && Nat.ble (off + size) cells.length) <;> simp only [hb, cond_true, cond_false] at h
        · simp at h
        · simp only [Bool.and_eq_true, beq_iff_eq] at hb
          exact step off size us es hp (by rw [hy]; rfl) (by rw [← hr.length]; exact hb.1) (Nat.le_of_ble_eq_true hb.2) hr hone h
      · simp at h
      · simp at h
      · rename_i d h2 h3 h4 h5
        cases hb : (size == 1 && Nat.ble (off + 1) cells.length) <;> simp only [hb, cond_true, cond_false] at h
        · simp at h
        · simp only [Bool.and_eq_true, beq_iff_eq] at hb
          obtain ⟨rfl, hb⟩ := hb
          have hb := Nat.le_of_ble_eq_true hb
          obtain ⟨hy, hone⟩ := scalar_cells hx (by intro e; exact h4 e) (by intro ds e; exact h5 ds e) (by intro ds e; exact h3 ds e) (by intro a e; exact h2 a e)
          refine step off 1 [a.eval x] [s.ev x] hp hy rfl (by omega) (by simp only [RepL]; exact ⟨_, _, rfl, hx, rfl⟩) (by simp [hone]) ?_
          rw [← h]
          congr 1
          have := splice_set cells off (s.ev x) [] (by omega)
          rw [← this]
          simp [splice]

theorem rep_succ {α : Type} (n : Nat) (xs : List α) : rep (n + 1) xs = rep n xs ++ xs := by
  simp [rep, List.replicate_succ', List.flatten_append]
theorem rep_length {α : Type} (n : Nat) (xs : List α) : (rep n xs).length = n * xs.length := by
  induction n with
  | zero => simp [rep]
  | succ n ih => rw [rep_succ, List.length_append, ih, Nat.add_mul, Nat.one_mul]
theorem rep_add {α : Type} (n m : Nat) (xs : List α) : rep (n + m) xs = rep n xs ++ rep m xs := by
  induction m with
  | zero => simp [rep]
  | succ m ih => rw [← Nat.add_assoc, rep_succ, ih, rep_succ, List.append_assoc]
theorem all_rep {p : Value → Bool} {xs : List Value} (n : Nat) (h : xs.all p = true) : (rep n xs).all p = true := by
  induction n with
  | zero => simp [rep]
  | succ n ih => rw [rep_succ, List.all_append, ih, h]; rfl
theorem RepL.rep {ds : List D} {vs : List Value} (n : Nat) (h : RepL w base loc ds vs) : RepL w base loc (rep n ds) (rep n vs) := by
  induction n with
  | zero => simp [V.rep, RepL]
  | succ n ih => rw [rep_succ, rep_succ]; exact ih.append h

theorem zeros_rep (z : Array Value) (n : Nat) : ((Array.range (n * z.size)).map (fun i => z[i % z.size]!)).toList = rep n z.toList := by
  induction n with
  | zero => simp [rep]
  | succ n ih =>
    rw [rep_succ, ← ih, Nat.add_mul, Nat.one_mul]
    simp only [Array.toList_map, Array.toList_range, List.range_add, List.map_append, List.map_map]
    congr 1
    apply List.ext_getElem
    · simp
    · intro i h1 h2
      simp at h1 h2
      have : (n * z.size + i) % z.size = i := by rw [Nat.mul_comm, Nat.mul_add_mod, Nat.mod_eq_of_lt h1]
      simp [this, h1]

theorem foldl_push (l : List UInt8) : ∀ r : ByteArray, ((l.map fun b => ((b.toNat : Nat) : Int)).foldl (fun r n => r.push (UInt8.ofNat n.toNat)) r).data.toList = r.data.toList ++ l := by
  induction l with
  | nil => intro r; simp
  | cons b l ih =>
    intro r
    simp only [List.map_cons, List.foldl_cons]
    rw [ih]
    simp [ByteArray.push]

theorem bytes_back (b : ByteArray) : ((b.data.toList.map fun b => ((b.toNat : Nat) : Int)).foldl (fun r n => r.push (UInt8.ofNat n.toNat)) ByteArray.empty) = b := by
  have := foldl_push b.data.toList ByteArray.empty
  have e : ∀ x y : ByteArray, x.data.toList = y.data.toList → x = y := by
    intro x y h
    obtain ⟨⟨x⟩⟩ := x
    obtain ⟨⟨y⟩⟩ := y
    simp at h
    rw [h]
  apply e
  rw [this]
  rfl

theorem contOf_sound {s : St} (hm : MemOk w base loc s.m) {x : D} {y : Value} {m : Bool} {c : D} {n sz : Nat} (hx : Rep w base loc x y) (hc : contOf s x = some (m, c)) (hl : lenD x = some n) (hs : szOf x = some sz ∨ n = 0) :
    ∃ a cap xs, y = .slice a n cap ∧ n ≤ cap ∧ Rep w base loc c (.agg ⟨xs⟩) ∧ (szOf x = some sz → xs.length = n * sz) ∧ (xs.length = 0 ∨ ∃ b o, a = some ⟨b, o, none⟩ ∧ At w b o xs) := by
  cases x with
  | slc f s' id off len =>
    simp only [lenD, Option.some.injEq] at hl
    subst hl
    simp only [szOf, Option.some.injEq] at hs ⊢
    simp only [Rep] at hx
    obtain ⟨a, cap, l, n', rfl, h3, h4, h5, h6, h7⟩ := hx
    have main : ∀ c0 c', s.m id = some c0 → (∀ xs, Rep w base loc c0 (.agg ⟨xs⟩) → Rep w base loc c' (.agg ⟨(xs.drop off).take (len * s')⟩)) → c' = c →
        ∃ a' cap' xs, Value.slice a len cap = .slice a' len cap' ∧ len ≤ cap' ∧ Rep w base loc c (.agg ⟨xs⟩) ∧ (s' = sz → xs.length = len * sz) ∧ (xs.length = 0 ∨ ∃ b o, a' = some ⟨b, o, none⟩ ∧ At w b o xs) := by
      rintro c0 c' hc0 hcc rfl
      obtain ⟨l', xs, g1, g2, g3⟩ := hm id c0 hc0
      rw [h4] at g1
      simp only [Option.some.injEq, Prod.mk.injEq] at g1
      obtain ⟨rfl, rfl⟩ := g1
      have hlen : ((xs.drop off).take (len * s')).length = len * s' := by simp; omega
      refine ⟨a, cap, _, rfl, h3, hcc xs g2, fun e => by rw [hlen, e], ?_⟩
      rw [hlen]
      by_cases hz : len * s' = 0
      · exact .inl hz
      · right
        have hl0 : len ≠ 0 := fun e => hz (by simp [e])
        cases l with
        | none => omega
        | some b =>
          obtain ⟨o, rfl, k2, _⟩ := h7
          refine ⟨b, o, rfl, ?_⟩
          have := (At.of_blk g3).sub off (len * s') h5
          rw [Nat.zero_add] at this
          rw [k2 hl0]
          exact this
    simp only [contOf] at hc
    split at hc
    · rename_i arr ha
      simp only [Option.some.injEq, Prod.mk.injEq] at hc
      refine main _ _ ha (fun xs hx => ?_) hc.2
      simp only [Rep, Value.agg.injEq] at hx ⊢
      obtain ⟨rfl, hf⟩ := hx
      refine ⟨rfl, ?_⟩
      simp only [Flat, List.all_eq_true] at hf ⊢
      exact fun x hx => hf x (List.mem_of_mem_drop (List.mem_of_mem_take hx))
    · rename_i ds ha
      simp only [Option.some.injEq, Prod.mk.injEq] at hc
      refine main _ _ ha (fun xs hx => ?_) hc.2
      simp only [Rep, Value.agg.injEq, Array.mk.injEq] at hx ⊢
      obtain ⟨vs, rfl, h2, h3⟩ := hx
      refine ⟨_, rfl, (h2.drop off).take _, ?_⟩
      simp only [List.all_eq_true] at h3 ⊢
      exact fun x hx => h3 x (List.mem_of_mem_drop (List.mem_of_mem_take hx))
    · simp at hc
  | row mi s' c' len =>
    simp only [lenD, Option.some.injEq] at hl
    subst hl
    simp only [szOf, Option.some.injEq] at hs ⊢
    simp only [contOf, Option.some.injEq, Prod.mk.injEq] at hc
    obtain ⟨_, rfl⟩ := hc
    simp only [Rep] at hx
    obtain ⟨a, cap, xs, rfl, h3, h4, h5, h6⟩ := hx
    refine ⟨a, cap, xs, rfl, h3, h4, fun e => by rw [h5, e], ?_⟩
    rcases h6 with h6 | ⟨b, o, g1, g2, _⟩
    · exact .inl (by omega)
    · exact .inr ⟨b, o, g1, g2⟩
  | v x' =>
    unfold contOf at hc
    unfold lenD at hl
    split at hc
    · rename_i h; simp at h
    · rename_i h; simp at h
    · rename_i h
      simp only [D.v.injEq] at h
      subst h
      simp only [Option.some.injEq, Prod.mk.injEq] at hc
      obtain ⟨_, rfl⟩ := hc
      simp only [Option.some.injEq] at hl
      subst hl
      simp only [Rep] at hx
      obtain ⟨rfl, _⟩ := hx
      exact ⟨none, 0, [], rfl, Nat.le_refl _, by simp [Rep, Flat], fun _ => by simp, .inl rfl⟩
    · simp at hc
  | _ => simp [contOf] at hc

end
end Go.V
/- The abstract states are sound, fifth part: all operations that write to no cell that was there. -/
set_option linter.unusedVariables false
set_option linter.unusedSimpArgs false
set_option linter.unusedSectionVars false
namespace Go.V
variable [Globs]

structure Ctx (P : Program) (T : Types) (w : World) (base : Nat) (loc : Loc) (s : St) (a : Act) : Prop where
  types : TOk P T
  ev : ∀ x, Rep w base loc (s.ev x) (a.eval x)
  mem : MemOk w base loc s.m
  le : base ≤ w.heap.size
  range : ∀ id b n, loc id = some (some b, n) → b < w.heap.size
  cnt : ∀ id l, loc id = some l → id.1 < lentKey → id.2.1 < s.c id.1
  glob : GlobOk w loc

mutual
theorem Rep.clean {base' base : Nat} {w w' : World} {loc loc' : Loc} (hle : base' ≤ base)
    (hold : ∀ b k e fr, base ≤ b → w.heap[b]? = some (.cells k e fr) → loc.avoids b → w'.heap[b]? = some (.cells k e fr) ∧ loc'.avoids b) :
    ∀ (d : D) (y : Value), clean d = true → Rep w base loc d y → Rep w' base' loc' d y
  | .junk, _, _, _ => by simp [Rep]
  | .mp, _, hc, _ => by simp [V.clean] at hc
  | .v x, y, _, hr => by simpa only [Rep] using hr
  | .ptr id off, y, hc, _ => by simp [V.clean] at hc
  | .slc full sz id off len, y, hc, _ => by simp [V.clean] at hc
  | .ref mine c off, y, hc, hr => by
    simp only [V.clean, Bool.and_eq_true] at hc
    simp only [Rep] at hr ⊢
    obtain ⟨b, o, xs, h1, ⟨k, e, fr, h2, h2'⟩, h3, h4, h5⟩ := hr
    obtain ⟨g1, g2⟩ := hold b k e fr (h4 hc.1) h2 h3
    exact ⟨b, o, xs, h1, ⟨k, e, fr, g1, h2'⟩, g2, fun hm => Nat.le_trans hle (h4 hm), Rep.clean hle hold c _ hc.2 h5⟩
  | .row mine sz c len, y, hc, hr => by
    simp only [V.clean, Bool.and_eq_true] at hc
    simp only [Rep] at hr ⊢
    obtain ⟨a, cap, xs, h1, h2, h3, h4, h5, hO⟩ := hr
    refine ⟨a, cap, xs, h1, h2, Rep.clean hle hold c _ hc.2 h3, h4, ?_, fun hm => ?_⟩
    rotate_left
    · rcases hO hm with hO | ⟨b, k, e, q1, q2, q3, q4, q5⟩
      · exact .inl hO
      · obtain ⟨r1, r2⟩ := hold b k e (0, 0) q3 q4 q2
        exact .inr ⟨b, k, e, q1, r2, Nat.le_trans hle q3, r1, q5⟩
    rcases h5 with h5 | ⟨b, o, g1, ⟨k, e, fr, g2, g2'⟩, g3, g4⟩
    · exact .inl h5
    · obtain ⟨g5, g6⟩ := hold b k e fr (g4 hc.1) g2 g3
      exact .inr ⟨b, o, g1, ⟨k, e, fr, g5, g2'⟩, g6, fun hm => Nat.le_trans hle (g4 hm)⟩
  | .agg ds, y, hc, hr => by
    simp only [V.clean] at hc
    simp only [Rep] at hr ⊢
    obtain ⟨vs, h1, h2, h3⟩ := hr
    exact ⟨vs, h1, RepL.clean hle hold ds vs hc h2, h3⟩
  | .tup ds, y, hc, hr => by
    simp only [V.clean] at hc
    simp only [Rep] at hr ⊢
    obtain ⟨vs, h1, h2⟩ := hr
    exact ⟨vs, h1, RepL.clean hle hold ds vs hc h2⟩
  | .fn f first caps, y, hc, hr => by
    simp only [V.clean, Bool.and_eq_true] at hc
    simp only [Rep] at hr ⊢
    obtain ⟨a, b, h1, h2, h3⟩ := hr
    exact ⟨a, b, h1, RepL.clean hle hold first a hc.1 h2, RepL.clean hle hold caps b hc.2 h3⟩
theorem RepL.clean {base' base : Nat} {w w' : World} {loc loc' : Loc} (hle : base' ≤ base)
    (hold : ∀ b k e fr, base ≤ b → w.heap[b]? = some (.cells k e fr) → loc.avoids b → w'.heap[b]? = some (.cells k e fr) ∧ loc'.avoids b) :
    ∀ (ds : List D) (vs : List Value), cleanL ds = true → RepL w base loc ds vs → RepL w' base' loc' ds vs
  | [], vs, _, hr => by simpa only [RepL] using hr
  | d :: ds, vs, hc, hr => by
    simp only [V.cleanL, Bool.and_eq_true] at hc
    simp only [RepL] at hr ⊢
    obtain ⟨y, ys, h1, h2, h3⟩ := hr
    exact ⟨y, ys, h1, Rep.clean hle hold d y hc.1 h2, RepL.clean hle hold ds ys hc.2 h3⟩
end

theorem cleanL_get : ∀ {ds : List D} {j : Nat} {d : D}, cleanL ds = true → ds[j]? = some d → clean d = true
  | [], j, d, _, h => by simp at h
  | e :: ds, j, d, hc, h => by
    simp only [cleanL, Bool.and_eq_true] at hc
    cases j with
    | zero => simp at h; subst h; exact hc.1
    | succ j => simp at h; exact cleanL_get hc.2 h

theorem hasRow_imp : ∀ {ds : List D} (i c j : Nat), hasRow ds = false → impL i c j ds = ds
  | [], i, c, j, _ => rfl
  | d :: ds, i, c, j, h => by
    cases d <;> first | (simp only [hasRow, reduceCtorEq] at h; done) | (simp only [hasRow] at h; simp only [impL, impD, hasRow_imp i c (j + 1) h])
theorem hasRow_C : ∀ {ds : List D} (j : Nat), hasRow ds = false → impC ds j = none
  | [], j, _ => by simp [impC]
  | d :: ds, j, h => by
    have h' : hasRow ds = false ∧ rowC d = none := by cases d <;> simp_all [hasRow, rowC]
    cases j with
    | zero => simp [impC, h'.2]
    | succ j => simpa [impC] using hasRow_C j h'.1

section
variable {P : Program} {T : Types} {w : World} {base : Nat} {loc : Loc}

/-- What a call hands back, as an effect. -/
theorem eff_of_res {w' : World} {res : D} {y : Value} {locr : Loc} {i : Nat} {c : Nat → Nat} (hle : base ≤ w.heap.size) (hrange : ∀ id b n, loc id = some (some b, n) → b < w.heap.size)
    (hb : RowKit.Below w.heap.size w w') (h : ResRep w' w.heap.size res y locr) : EffRel base c (some i) w loc w' y (Eff.ofRes i (c i) res) := by
  have hnew : ∀ (g : Nat → Option (Option Nat × Nat)), (∀ j b n, g j = some (some b, n) → ∃ id, locr id = some (some b, n)) → ∀ b, w.heap.size ≤ b → locr.avoids b → (locR loc i (c i) g).avoids b := by
    intro g hg b hbb hv id n he
    unfold locR at he
    cases hcase : (id.1 == i && id.2.1 == c i) <;> simp only [hcase, cond_true, cond_false] at he
    · have := hrange _ _ _ he; omega
    · obtain ⟨id', h'⟩ := hg _ _ _ he
      exact hv id' n h'
  unfold Eff.ofRes
  cases hrow : hasRow (tops res) with
  | false =>
    simp only [cond_false, EffRel]
    refine ⟨hb, ?_⟩
    have hno : ∀ id l, locr id ≠ some l := by
      intro id l he
      have := (h.key id l he).2.2
      rw [hasRow_C _ hrow] at this
      simp at this
    have himp : impV 0 0 res = res := by
      cases res with
      | tup ds => simp only [impV]; rw [hasRow_imp 0 0 0 (by simpa only [tops] using hrow)]
      | row => simp [tops, hasRow] at hrow
      | _ => rfl
    have hr := h.rep
    rw [himp] at hr
    have hold : ∀ b k e fr, w.heap.size ≤ b → w'.heap[b]? = some (.cells k e fr) → locr.avoids b → w'.heap[b]? = some (.cells k e fr) ∧ loc.avoids b := by
      intro b k e fr hbb hk _
      exact ⟨hk, fun id n he => by have := hrange _ _ _ he; omega⟩
    have hc := h.new
    cases res with
    | tup ds =>
      simp only [Rep] at hr ⊢
      obtain ⟨vs, h1, h2⟩ := hr
      exact ⟨vs, h1, RepL.clean hle hold _ _ (by simpa only [tops] using hc) h2⟩
    | _ => exact Rep.clean hle hold _ _ (by simpa only [tops, cleanL, Bool.and_true] using hc) hr
  | true =>
    simp only [cond_true, EffRel]
    refine ⟨hb, i, fun j => locr (0, 0, j), rfl, ?_⟩
    have hid : ∀ id l, locr id = some l → id = (0, 0, id.2.2) := by
      intro id l he
      obtain ⟨h1, h2, _⟩ := h.key id l he
      obtain ⟨x, y, z⟩ := id
      simp only at h1 h2
      subst h1; subst h2; rfl
    have hold : ∀ b k e fr, w.heap.size ≤ b → w'.heap[b]? = some (.cells k e fr) → locr.avoids b → w'.heap[b]? = some (.cells k e fr) ∧ (locR loc i (c i) fun j => locr (0, 0, j)).avoids b :=
      fun b k e fr hbb hk hv => ⟨hk, hnew _ (fun j b n he => ⟨_, he⟩) b hbb hv⟩
    have hat : ∀ j, (locR loc i (c i) fun j => locr (0, 0, j)) (i, c i, j) = locr (0, 0, j) := by intro j; simp [locR]
    have one : ∀ (d : D) (j : Nat) (z : Value), clean d = true → Rep w' w.heap.size locr (impD 0 0 j d) z → Rep w' base (locR loc i (c i) fun j => locr (0, 0, j)) (impD i (c i) j d) z := by
      intro d j z hc hr
      cases d with
      | row m sz cc len =>
        simp only [impD, Rep] at hr ⊢
        rw [hat j]
        exact hr
      | _ => exact Rep.clean hle hold _ _ hc (by simpa only [impD] using hr)
    have many : ∀ (ds : List D) (j : Nat) (zs : List Value), cleanL ds = true → RepL w' w.heap.size locr (impL 0 0 j ds) zs → RepL w' base (locR loc i (c i) fun j => locr (0, 0, j)) (impL i (c i) j ds) zs := by
      intro ds
      induction ds with
      | nil => intro j zs _ hr; simpa only [impL, RepL] using hr
      | cons d ds ih =>
        intro j zs hc hr
        simp only [cleanL, Bool.and_eq_true] at hc
        simp only [impL, RepL] at hr ⊢
        obtain ⟨z, zs', h1, h2, h3⟩ := hr
        exact ⟨z, zs', h1, one d j z hc.1 h2, ih (j + 1) zs' hc.2 h3⟩
    have hc := h.new
    constructor
    · have hr := h.rep
      cases res with
      | tup ds =>
        simp only [impV, Rep] at hr ⊢
        obtain ⟨vs, h1, h2⟩ := hr
        exact ⟨vs, h1, many ds 0 vs (by simpa only [tops] using hc) h2⟩
      | _ => exact one _ 0 y (by simpa only [tops, cleanL, Bool.and_true] using hc) (by simpa only [impV] using hr)
    · intro j b n he
      exact h.range _ _ _ he
    · intro j l he
      exact (h.key _ _ he).2.2
    · intro j j' b n n' he he'
      have := h.inj _ _ _ _ _ he he'
      simpa using this
    · intro j c' hj
      obtain ⟨l, xs, g1, g2, g3⟩ := h.mem j c' hj
      refine ⟨l, xs, g1, Rep.clean hle hold _ _ ?_ g2, g3⟩
      unfold impC at hj
      split at hj
      · rename_i d hd
        have := cleanL_get hc hd
        cases d <;> first | (simp only [rowC, reduceCtorEq] at hj; done) | (simp only [rowC, Option.some.injEq] at hj; subst hj; simp only [V.clean, Bool.and_eq_true] at this; exact this.2)
      · simp at hj

/-- A new block that holds a content at its head (and more behind it). -/
theorem eff_new {o : Oper} {s : St} {a : Act} (ctx : Ctx P T w base loc s a) (hd : ∀ i, o.dst = some i → i < lentKey) {K : Eff → Prop} {dm : Id → D} {cd : D} {xs : List Value} {e : TypeId}
    (h : newK s o.dst dm cd K) (hc : Rep w base loc cd (.agg ⟨xs⟩)) (more : List Value) {y : Value}
    (hm : ∀ i (loc' : Loc), loc' (i, s.c i, 0) = some (some w.heap.size, xs.length) → Rep (w.alloc (.cells ⟨xs ++ more⟩ e (0, 0))) base loc' (dm (i, s.c i, 0)) y) :
    ∃ ef, K ef ∧ EffRel base s.c o.dst w loc (w.alloc (.cells ⟨xs ++ more⟩ e (0, 0))) y ef := by
  unfold newK at h
  split at h
  · rename_i i hi
    refine ⟨_, h, ?_⟩
    simp only [EffRel]
    refine ⟨below_new _ _, i, _, hi, new_rel more hc ctx.range ?_ ?_⟩
    · intro id l hl hk
      have := ctx.cnt id l hl (by rw [hk]; exact hd i hi)
      rw [hk] at this
      exact this
    · exact hm i _ (by simp [locR])
  · exact h.elim

end
end Go.V
/- The abstract states are sound, sixth part: an operation that writes to no cell that was there comes to what the abstract state says. -/
set_option linter.unusedVariables false
set_option linter.unusedSimpArgs false
set_option linter.unusedSectionVars false
namespace Go.V
variable [Globs]

section
variable {P : Program} {T : Types} {w : World} {base : Nat} {loc : Loc} {s : St} {a : Act} {o : Oper} {K : Eff → Prop}

abbrev Goal (P : Program) (w : World) (base : Nat) (loc : Loc) (s : St) (a : Act) (o : Oper) (K : Eff → Prop) : Prop :=
  Done P o a w fun y w' => ∃ e, K e ∧ EffRel base s.c o.dst w loc w' y e

theorem goal_val {S : Sem Value} (hx : execOp a.eval o = (do pure (.value (← S)))) (h : ∃ d z, K (.val d) ∧ S.run P w = .ok z w ∧ Rep w base loc d z) : Goal P w base loc s a o K := by
  obtain ⟨d, z, h1, h2, h3⟩ := h
  exact .inl ⟨z, w, by simp [hx, h2], .val d, h1, RowKit.Below.refl _ _, h3⟩

theorem goal_move {x : Operand} (ctx : Ctx P T w base loc s a) (hx : execOp a.eval o = pure (.value (a.eval x))) (h : force (s.ev x) fun d => K (.val d)) : Goal P w base loc s a o K := by
  rw [force_eq] at h
  exact .inl ⟨_, w, by simp [hx], _, h, RowKit.Below.refl _ _, ctx.ev x⟩

theorem args_rep (hm : MemOk w base loc s.m) (B : Nat) {ds ds' : List D} {vs : List Value} (h : mapO (deep false [] s.m depth) ds = some ds') (hr : RepL w base loc ds vs) : RepL w B noLoc ds' vs :=
  mapO_rep (fun d d' y => deep_arg hm B depth d d' y) h hr

theorem evs_rep (hev : ∀ x, Rep w base loc (s.ev x) (a.eval x)) : ∀ (l : List Operand), RepL w base loc (l.map s.ev) (l.map a.eval)
  | [] => by simp [RepL]
  | x :: l => by simp only [List.map_cons, RepL]; exact ⟨_, _, rfl, hev x, evs_rep hev l⟩

theorem goal_call {f : Operand} {args : Array Operand} {ts : Array TypeId} (ctx : Ctx P T w base loc s a) (ho : o.op = .call { callee := .value f, args, argTypes := ts })
    (h : callK P s (s.ev f) (args.toList.map s.ev) o.dst K) : Goal P w base loc s a o K := by
  unfold callK at h
  split at h
  · rename_i g first caps hf
    obtain ⟨dargs, res, h1, hS, h2⟩ := h
    have hev := ctx.ev f
    rw [hf] at hev
    simp only [Rep] at hev
    obtain ⟨fa, cb, hval, hfa, hcb⟩ := hev
    have hargs : RepL w w.heap.size noLoc dargs (fa ++ (args.toList.map a.eval ++ cb)) :=
      args_rep ctx.mem _ h1 (hfa.append ((evs_rep ctx.ev _).append hcb))
    have e : (⟨fa⟩ ++ (args.map a.eval ++ ⟨cb⟩) : Array Value) = ⟨fa ++ (args.toList.map a.eval ++ cb)⟩ := by
      apply Array.ext'; simp
    obtain ⟨⟨fn, c, hfn, hbody, hname⟩, hsat⟩ := hS
    refine .inr (.inr ⟨g, ⟨fa ++ (args.toList.map a.eval ++ cb)⟩, w, ?_, ?_⟩)
    · have hn' : ¬ fn.name = "runtime.NumGoroutine" := by simpa using hname
      simp [execOp, ho, resolve, hval, Deferred.ofValue, invoke, callFunc, hfn, hn', hbody, e]
    · refine (hsat w _ ctx.glob.no hargs).mono ?_
      rintro e w' ⟨y, locr, rfl, hb, hres⟩
      refine ⟨y, rfl, ?_⟩
      cases hd : o.dst with
      | some i =>
        rw [hd] at h2
        exact ⟨_, h2, eff_of_res ctx.le ctx.range hb hres⟩
      | none =>
        rw [hd] at h2
        exact ⟨.val .junk, h2, hb, by simp [Rep]⟩
  · exact h.elim

theorem map_two {α β : Type} {f : α → β} {l : List α} {x y : β} (h : l.map f = [x, y]) : ∃ a b, l = [a, b] ∧ f a = x ∧ f b = y := by
  match l, h with
  | [], h => simp at h
  | [a], h => simp at h
  | [a, b], h => simp at h; exact ⟨a, b, rfl, h.1, h.2⟩
  | a :: b :: c :: r, h => simp at h

theorem goal_builtin {b : Builtin} {args : Array Operand} {ts : Array TypeId} (ctx : Ctx P T w base loc s a) (ho : o.op = .call { callee := .builtin b, args, argTypes := ts })
    (h : builtinK T b ts (args.toList.map s.ev) fun d => K (.val d)) : Goal P w base loc s a o K := by
  have hex : ∀ z : Value, (∀ (tys : Array TypeId) (ty : TypeId) (cs : Array Bool), (builtin b ts ty cs (args.map a.eval)).run P w = .ok (.value z) w) → (execOp a.eval o).run P w = .ok (.value z) w := by
    intro z hz
    simp [execOp, ho, resolve, invoke, hz #[]]
  unfold builtinK at h
  split at h
  · rename_i t r x hts hargs
    have hts' : ts[0]? = some t := by rw [← Array.getElem?_toList, hts]; rfl
    obtain ⟨x0, hx0, rfl⟩ : ∃ x0, args.toList = [x0] ∧ s.ev x0 = x := by
      match hl : args.toList, hargs with
      | [x0], h => exact ⟨x0, rfl, by simpa using h⟩
    have hv := ctx.ev x0
    have ha : (args.map a.eval)[0]? = some (a.eval x0) := by rw [← Array.getElem?_toList, Array.toList_map, hx0]; rfl
    split at h
    · rename_i sz bs zr b' hti hb'
      have hu := (ctx.types t _ hti).und
      simp only [UOk] at hu
      rw [hb'] at hv
      simp only [Rep] at hv
      refine .inl ⟨.int .i64 b'.size, w, hex _ fun _ _ _ => ?_, _, h, RowKit.Below.refl _ _, by simp [Rep, Flat]⟩
      simp [builtin, Builtin.len_, hts', ha, hv.1, run_under hu, goInt]
    · rename_i n e sz bs zr hti
      have hu := (ctx.types t _ hti).und
      simp only [UOk] at hu
      refine .inl ⟨.int .i64 n, w, hex _ fun _ _ _ => ?_, _, h, RowKit.Below.refl _ _, by simp [Rep, Flat]⟩
      simp [builtin, Builtin.len_, hts', ha, run_under hu, goInt]
    · rename_i e sz bs zr hti
      have hu := (ctx.types t _ hti).und
      simp only [UOk] at hu
      split at h
      · rename_i n hn
        obtain ⟨aa, cap, hy⟩ : ∃ aa cap, a.eval x0 = .slice aa n cap := by
          revert hv hn
          cases s.ev x0 with
          | slc f sz' id off len => intro hv hn; simp only [lenD, Option.some.injEq] at hn; subst hn; simp only [Rep] at hv; obtain ⟨aa, cap, _, _, hy, _⟩ := hv; exact ⟨aa, cap, hy⟩
          | row m sz' c len => intro hv hn; simp only [lenD, Option.some.injEq] at hn; subst hn; simp only [Rep] at hv; obtain ⟨aa, cap, _, hy, _⟩ := hv; exact ⟨aa, cap, hy⟩
          | v x' =>
            intro hv hn
            unfold lenD at hn
            split at hn
            · rename_i hh; simp at hh
            · rename_i hh; simp at hh
            · rename_i hh
              simp only [D.v.injEq] at hh
              subst hh
              simp only [Option.some.injEq] at hn
              subst hn
              simp only [Rep] at hv
              exact ⟨none, 0, hv.1⟩
            · simp at hn
          | _ => intro hv hn; simp [lenD] at hn
        refine .inl ⟨.int .i64 n, w, hex _ fun _ _ _ => ?_, _, h, RowKit.Below.refl _ _, by simp [Rep, Flat]⟩
        simp [builtin, Builtin.len_, hts', ha, hy, run_under hu, goInt]
      · exact h.elim
    · exact h.elim
  all_goals first
    | exact h.elim
    | (rename_i k x k' y hargs
       obtain ⟨x0, y0, hx0, hx, hy⟩ := map_two hargs
       have hvx := ctx.ev x0
       have hvy := ctx.ev y0
       rw [hx] at hvx
       rw [hy] at hvy
       simp only [Rep] at hvx hvy
       refine .inl ⟨_, w, hex _ fun _ _ _ => ?_, _, h, RowKit.Below.refl _ _, by simp only [Rep]; exact ⟨rfl, rfl⟩⟩
       simp [builtin, Builtin.max_, Builtin.min_, Builtin.max2, Builtin.min2, hx0, hvx.1, hvy.1])

theorem goal_conv {x : Operand} {t u : TypeId} (ctx : Ctx P T w base loc s a) (ho : o.op = .convert t u x) (h : convK T s t u (s.ev x) fun d => K (.val d)) : Goal P w base loc s a o K := by
  have hex : ∀ z w', (convert t u (a.eval x)).run P w = .ok z w' → (execOp a.eval o).run P w = .ok (.value z) w' := by
    intro z w' hz
    simp [execOp, ho, hz]
  have hv := ctx.ev x
  unfold convK at h
  split at h
  · rename_i i k sz bs zr k' n ht hu hx
    rw [hx] at hv
    simp only [Rep] at hv
    have h1 := (ctx.types u _ hu).und
    simp only [UOk] at h1
    obtain ⟨d, h2⟩ : ∃ d, P.underlying t = some d := by
      have := (ctx.types t _ ht).und
      cases hh : i.u <;> rw [hh] at this <;> simp only [UOk] at this <;> first | exact ⟨_, this⟩ | (obtain ⟨e, this⟩ := this; exact ⟨_, this⟩) | (obtain ⟨e, this, _⟩ := this; exact ⟨_, this⟩) | (obtain ⟨e, f, g, this⟩ := this; exact ⟨_, this⟩)
    exact .inl ⟨_, w, hex _ _ (by simp [convert, run_under h1, run_under h2, hv.1, Conv.intToInt]; rfl), _, h, RowKit.Below.refl _ _, by simp [Rep, Flat]⟩
  · rename_i i sz bs zr b ht hu hx
    rw [hx] at hv
    simp only [Rep] at hv
    have h1 := (ctx.types u _ hu).und
    simp only [UOk] at h1
    obtain ⟨d, h2⟩ : ∃ d, P.underlying t = some d := by
      have := (ctx.types t _ ht).und
      cases hh : i.u <;> rw [hh] at this <;> simp only [UOk] at this <;> first | exact ⟨_, this⟩ | (obtain ⟨e, this⟩ := this; exact ⟨_, this⟩) | (obtain ⟨e, this, _⟩ := this; exact ⟨_, this⟩) | (obtain ⟨e, f, g, this⟩ := this; exact ⟨_, this⟩)
    exact .inl ⟨.string b, w, hex _ _ (by cases d <;> simp [convert, run_under h1, run_under h2, hv.1]), _, h, RowKit.Below.refl _ _, by simp [Rep, Flat]⟩
  · rename_i i sz bs zr k n ht hu hx
    rw [hx] at hv
    simp only [Rep] at hv
    have h1 := (ctx.types u _ hu).und
    simp only [UOk] at h1
    obtain ⟨d, h2⟩ : ∃ d, P.underlying t = some d := by
      have := (ctx.types t _ ht).und
      cases hh : i.u <;> rw [hh] at this <;> simp only [UOk] at this <;> first | exact ⟨_, this⟩ | (obtain ⟨e, this⟩ := this; exact ⟨_, this⟩) | (obtain ⟨e, this, _⟩ := this; exact ⟨_, this⟩) | (obtain ⟨e, f, g, this⟩ := this; exact ⟨_, this⟩)
    exact .inl ⟨.string (Utf8.encode n), w, hex _ _ (by cases d <;> simp [convert, run_under h1, run_under h2, hv.1, Conv.intToString]), _, h, RowKit.Below.refl _ _, by simp [Rep, Flat]⟩
  · rename_i i e sz bs zr b ht hu hx
    rw [hx] at hv
    simp only [Rep] at hv
    have h1 := (ctx.types u _ hu).und
    simp only [UOk] at h1
    obtain ⟨d, h2⟩ : ∃ d, P.underlying t = some d := by
      have := (ctx.types t _ ht).und
      cases hh : i.u <;> rw [hh] at this <;> simp only [UOk] at this <;> first | exact ⟨_, this⟩ | (obtain ⟨e, this⟩ := this; exact ⟨_, this⟩) | (obtain ⟨e, this, _⟩ := this; exact ⟨_, this⟩) | (obtain ⟨e, f, g, this⟩ := this; exact ⟨_, this⟩)
    split at h
    · rename_i sz' bs' zr' he
      have h3 := (ctx.types e _ he).und
      simp only [UOk] at h3
      have hr := Lib.run_convert_string_bytes (P := P) w t u e b h2 h1 h3
      rw [← hv.1] at hr
      have hbel : RowKit.Below w.heap.size w (Lib.bytesWorld w e b) := by
        refine ⟨rfl, rfl, rfl, by rw [Lib.bytesWorld_size]; omega, fun k hk => Lib.bytesWorld_at_old w e b k hk⟩
      refine .inl ⟨_, _, hex _ _ hr, _, h, hbel, ?_⟩
      simp only [Rep]
      have hlen : (byteVals b).length = b.size := by simp [byteVals]
      refine ⟨_, _, byteVals b, rfl, ?_, ⟨rfl, ?_⟩, by rw [hlen, Nat.mul_one], ?_, (by simp)⟩
      · show b.size ≤ grownCap w b.size 0 e
        unfold grownCap; simp [Question.cut]
      · simp only [Flat, List.all_eq_true, byteVals, List.mem_map]
        rintro x ⟨y, _, rfl⟩
        rfl
      · right
        refine ⟨w.heap.size, 0, rfl, ⟨_, _, _, Lib.bytesWorld_at_new w e b, ?_, ?_⟩, ?_, (by simp)⟩
        · rw [hlen]; simp [Lib.bytesCells]
        · rw [hlen]
          simp [Lib.bytesCells, byteVals]
        · intro id n he'
          have := ctx.range _ _ _ he'
          omega
    · exact h.elim
  · rename_i e sz bs zr sz' bs' zr' ht hu hx1 hx2
    have h1 := (ctx.types u _ hu).und
    have h2 := (ctx.types t _ ht).und
    simp only [UOk] at h1 h2
    split at h
    · rename_i k sz'' bs'' zr'' m arr n he hc hl
      have h3 := (ctx.types e _ he).und
      simp only [UOk] at h3
      obtain ⟨b, ⟨rfl, rfl, hb, hsz⟩, hk⟩ := h
      obtain ⟨aa, cap, xs, hy, hle, hr, hlen, hat⟩ := contOf_sound ctx.mem hv hc hl (.inl hsz)
      simp only [Rep, Value.agg.injEq] at hr
      obtain ⟨hxs, _⟩ := hr
      have hxs : xs = byteVals b := by rw [← hb, ← hxs]
      refine .inl ⟨.string b, w, hex _ _ ?_, _, hk, RowKit.Below.refl _ _, by simp [Rep, Flat]⟩
      rw [hy, run_convert_bytes_string w t u e aa _ cap h2 h3 h1]
      rcases hat with hz | ⟨bb, oo, rfl, hat⟩
      · have hl0 : xs.length = b.size := by rw [hxs]; simp [byteVals]
        have hb0 : b = ByteArray.empty := by
          have : b.data.toList = [] := List.eq_nil_of_length_eq_zero (by rw [Array.length_toList]; show b.size = 0; omega)
          obtain ⟨⟨l⟩⟩ := b
          simp at this
          subst this
          rfl
        subst hb0
        cases aa with
        | none => rfl
        | some q =>
          have hload : (loadCells q (ByteArray.empty.size)).run P w = .ok (([] : List Int).map (Value.int .u8)).toArray w := by
            show (loadCells q 0).run P w = _
            simp [loadCells, loadCellsFrom]
          have := run_bytesToString (P := P) w q _ cap [] hload
          simpa using this
      · have hload := run_loadCells_at (P := P) hat
        have hl0 : xs.length = b.size := by rw [hxs]; simp [byteVals]
        rw [hl0] at hload
        have := run_bytesToString (P := P) w ⟨bb, oo, none⟩ b.size cap (b.data.toList.map fun b => ((b.toNat : Nat) : Int)) (by rw [hload, hxs]; simp [byteVals, Function.comp_def])
        rw [this, bytes_back]
    · exact h.elim
  · exact h.elim

theorem goal_alloc {t : TypeId} (ctx : Ctx P T w base loc s a) (hd : ∀ i, o.dst = some i → i < lentKey) (ho : o.op = .alloc t) {i : TI} (hi : T t = some i)
    (h : newK s o.dst (fun id => .ptr id 0) (cont (.v i.zero)) K) : Goal P w base loc s a o K := by
  have ht := ctx.types t i hi
  obtain ⟨xs, h1, h2⟩ := cont_rep (w := w) (base := base) (loc := loc) (d := .v i.zero) (y := i.zero) (by simp only [Rep, true_and]; exact ht.flat) (by simp) (by simp)
  obtain ⟨ef, g1, g2⟩ := eff_new (e := t) (y := .pointer (some ⟨w.heap.size, 0, none⟩)) ctx hd h h2 [] (fun j loc' hl => by simp only [Rep]; exact ⟨_, _, hl, rfl⟩)
  refine .inl ⟨_, _, ?_, ef, g1, g2⟩
  simp [execOp, ho, Instr.alloc, run_zero ctx.types hi, newVar, newRow, h1]

theorem goal_box {t : TypeId} {x : Operand} (ctx : Ctx P T w base loc s a) (hd : ∀ i, o.dst = some i → i < lentKey) (ho : o.op = .box t x)
    (h : force (s.ev x) fun d => (match d with | .junk => False | .tup _ => False | d => newK s o.dst (fun id => .ptr id 0) (cont d) K)) : Goal P w base loc s a o K := by
  rw [force_eq] at h
  have hv := ctx.ev x
  have main : s.ev x ≠ .junk → (∀ ds, s.ev x ≠ .tup ds) → newK s o.dst (fun id => .ptr id 0) (cont (s.ev x)) K → Goal P w base loc s a o K := by
    intro n1 n2 h
    obtain ⟨xs, h1, h2⟩ := cont_rep hv n1 n2
    obtain ⟨ef, g1, g2⟩ := eff_new (e := t) (y := .pointer (some ⟨w.heap.size, 0, none⟩)) ctx hd h h2 [] (fun j loc' hl => by simp only [Rep]; exact ⟨_, _, hl, rfl⟩)
    refine .inl ⟨_, _, ?_, ef, g1, g2⟩
    simp [execOp, ho, Instr.box, newVar, newRow, h1]
  cases hx : s.ev x with
  | junk => rw [hx] at h; exact h.elim
  | tup ds => rw [hx] at h; exact h.elim
  | _ => rw [hx] at h; exact main (by simp [hx]) (by simp [hx]) (by rw [hx]; exact h)

theorem mapM_places (hT : TOk P T) : ∀ (fs : List Field) (pl : List (Nat × Nat)), mapO (fun p : Nat × TypeId => match T p.2 with | some ti => some (p.1, ti.size) | none => none) (fs.map fun f => (f.offset, f.type)) = some pl →
    (fs.mapM fun f => do pure (f.offset, ← sizeOf f.type) : Sem (List (Nat × Nat))).run P w = .ok pl w
  | [], pl, h => by simp only [List.map_nil, mapO, Option.some.injEq] at h; subst h; simp
  | f :: fs, pl, h => by
    simp only [List.map_cons, mapO] at h
    split at h
    · rename_i p hp
      split at h
      · rename_i ps hps
        simp only [Option.some.injEq] at h
        subst h
        split at hp
        · rename_i ti hti
          simp only [Option.some.injEq] at hp
          subst hp
          have ih := mapM_places hT fs ps hps
          simp only [bind_pure_comp] at ih
          simp [List.mapM_cons, run_size hT hti, ih]
        · simp at hp
      · simp at h
    · simp at h

theorem zero_rep (hT : TOk P T) {t : TypeId} {i : TI} (hi : T t = some i) {zs : List D} (hz : asList (cont (.v i.zero)) = some zs) :
    RepL w base loc zs i.zero.cells.toList ∧ i.zero.cells.toList.all Value.oneCell' = true ∧ zs.length = i.size := by
  have ht := hT t i hi
  obtain ⟨xs, h1, h2⟩ := cont_rep (w := w) (base := base) (loc := loc) (d := .v i.zero) (y := i.zero) (by simp only [Rep, true_and]; exact ht.flat) (by simp) (by simp)
  obtain ⟨h3, h4⟩ := h2.asList hz
  rw [h1]
  refine ⟨h3, h4, ?_⟩
  rw [h3.length, ← ht.size, h1]
  rfl

theorem goal_build {t : TypeId} {parts : Array (Nat × Operand)} (ctx : Ctx P T w base loc s a) (ho : o.op = .build t parts) (h : quietK P T o s K) : Goal P w base loc s a o K := by
  simp only [quietK, ho] at h
  have hex : ∀ z, (Instr.build t (parts.map fun (i, x) => (i, a.eval x))).run P w = .ok z w → (execOp a.eval o).run P w = .ok (.value z) w := by
    intro z hz
    simp only [execOp, ho, Sem.run_bind]
    rw [hz]
    simp
  have hparts : (parts.map fun (p : Nat × Operand) => (p.1, a.eval p.2)).toList = parts.toList.map fun p => (p.1, a.eval p.2) := by simp
  split at h
  · rename_i fs sz bs z hi
    obtain ⟨fields, hu, hfs⟩ := (ctx.types t _ hi).und
    split at h
    · rename_i zs hzs
      split at h
      · rename_i pl hpl
        split at h
        · rename_i ds hds
          obtain ⟨h1, h2, h3⟩ := zero_rep (w := w) (base := base) (loc := loc) ctx.types hi hzs
          obtain ⟨us, g1, g2, g3, g4⟩ := fill_sound ctx.ev parts.toList zs _ ds h1 h2 hds
          refine .inl ⟨.agg ⟨us⟩, w, hex _ ?_, _, h, RowKit.Below.refl _ _, Rep.mkAgg g2 g3⟩
          have hm := mapM_places (P := P) (w := w) ctx.types fields.toList pl (by rw [hfs]; exact hpl)
          have hm' : (fields.mapM fun f => do pure (f.offset, ← sizeOf f.type) : Sem (Array (Nat × Nat))).run P w = .ok ⟨pl⟩ w := by
            rw [Array.mapM_eq_mapM_toList]
            simp only [Sem.run_map]
            rw [hm]
            rfl
          have hpl2 : (fun i : Nat => (⟨pl⟩ : Array (Nat × Nat))[i]?) = fun i : Nat => pl[i]? := by funext i; simp
          simp only [Instr.build, Sem.run_bind, run_zero ctx.types hi, Result.andThen_ok, run_under hu, hm', hpl2, hparts]
          have hc : (z.cells : Array Value) = ⟨z.cells.toList⟩ := rfl
          rw [hc, g1]
          rfl
        · exact h.elim
      · exact h.elim
    · exact h.elim
  · rename_i n e sz bs z hi
    have hu := (ctx.types t _ hi).und
    simp only [UOk] at hu
    split at h
    · rename_i ti zs hti hzs
      split at h
      · rename_i ds hds
        obtain ⟨h1, h2, h3⟩ := zero_rep (w := w) (base := base) (loc := loc) ctx.types hi hzs
        obtain ⟨us, g1, g2, g3, g4⟩ := fill_sound ctx.ev parts.toList zs _ ds h1 h2 hds
        refine .inl ⟨.agg ⟨us⟩, w, hex _ ?_, _, h, RowKit.Below.refl _ _, Rep.mkAgg g2 g3⟩
        simp only [Instr.build, Sem.run_bind, run_zero ctx.types hi, Result.andThen_ok, run_under hu, run_size ctx.types hti, hparts]
        have hc : (z.cells : Array Value) = ⟨z.cells.toList⟩ := rfl
        rw [hc, g1]
        rfl
      · exact h.elim
    · exact h.elim
  · exact h.elim

theorem goal_buildSlice {t : TypeId} {len : Nat} {parts : Array (Nat × Operand)} (ctx : Ctx P T w base loc s a) (hd : ∀ i, o.dst = some i → i < lentKey) (ho : o.op = .buildSlice t len parts) (h : quietK P T o s K) : Goal P w base loc s a o K := by
  simp only [quietK, ho] at h
  have hex : ∀ z w', (Instr.buildSlice t len (parts.map fun (i, x) => (i, a.eval x))).run P w = .ok z w' → (execOp a.eval o).run P w = .ok (.value z) w' := by
    intro z w' hz
    simp only [execOp, ho, Sem.run_bind]
    rw [hz]
    simp
  have hparts : (parts.map fun (p : Nat × Operand) => (p.1, a.eval p.2)).toList = parts.toList.map fun p => (p.1, a.eval p.2) := by simp
  split at h
  · rename_i e sz bs z hi
    have hu := (ctx.types t _ hi).und
    simp only [UOk] at hu
    split at h
    · rename_i ti hti
      split at h
      · rename_i zs hzs
        split at h
        · rename_i ds hds
          rw [asrt_iff] at h
          obtain ⟨hlim, h⟩ := h
          have hlim := Nat.le_of_ble_eq_true hlim
          obtain ⟨h1, h2, h3⟩ := zero_rep (w := w) (base := base) (loc := loc) ctx.types hti hzs
          obtain ⟨us, g1, g2, g3, g4⟩ := fill_sound ctx.ev parts.toList _ _ ds (h1.rep len) (all_rep len h2) hds
          have hsz : ti.zero.cells.size = ti.size := (ctx.types e _ hti).size
          have hul : us.length = len * ti.size := by rw [g4, rep_length, Array.length_toList, hsz]
          obtain ⟨ef, k1, k2⟩ := eff_new (e := e) (y := .slice (some ⟨w.heap.size, 0, none⟩) len len) ctx hd h (Rep.mkAgg g2 g3) [] (fun j loc' hl => by
            rw [Rep]
            refine ⟨_, _, _, _, rfl, Nat.le_refl _, hl, by omega, fun _ => ⟨rfl, hul.symm⟩, 0, rfl, fun _ => rfl, fun _ => ⟨rfl, _, _, _, heap_new _ _, ?_⟩⟩
            simp; omega)
          refine .inl ⟨_, _, hex _ _ ?_, ef, k1, k2⟩
          have hlim' : ¬ (len * ti.size > 2 ^ 24) := by simpa using hlim
          simp only [Instr.buildSlice, Sem.run_bind, run_under hu, Result.andThen_ok, run_size ctx.types hti, if_neg hlim', Sem.run_pure, hparts, List.append_nil]
          by_cases hz : len * ti.size = 0
          · have hr : (Array.map (fun x => (#[] : Array Value)[x % (#[] : Array Value).size]!) (Array.range (len * ti.size))) = ⟨rep len ti.zero.cells.toList⟩ := by
              apply Array.ext'
              have : (rep len ti.zero.cells.toList).length = 0 := by rw [rep_length, Array.length_toList, hsz, hz]
              rw [List.eq_nil_of_length_eq_zero this]
              simp [hz]
            rw [if_pos hz]
            simp only [Sem.run_bind, Sem.run_pure, Result.andThen_ok]
            rw [hr, g1]
            simp [newRow]
          · have hr : (Array.map (fun x => ti.zero.cells[x % ti.zero.cells.size]!) (Array.range (len * ti.size))) = ⟨rep len ti.zero.cells.toList⟩ := by
              apply Array.ext'
              rw [← hsz]
              exact zeros_rep _ _
            rw [if_neg hz]
            simp only [Sem.run_bind, run_zero ctx.types hti, Sem.run_pure, Result.andThen_ok]
            rw [hr, g1]
            simp [newRow]
        · exact h.elim
      · exact h.elim
    · exact h.elim
  · exact h.elim

theorem goal_make {t : TypeId} {x y : Operand} (ctx : Ctx P T w base loc s a) (hd : ∀ i, o.dst = some i → i < lentKey) (ho : o.op = .makeSlice t x y) (h : quietK P T o s K) : Goal P w base loc s a o K := by
  simp only [quietK, ho] at h
  have hex : ∀ z w', (Instr.makeSlice t (a.eval x) (a.eval y)).run P w = .ok z w' → (execOp a.eval o).run P w = .ok (.value z) w' := by
    intro z w' hz
    simp [execOp, ho, hz]
  split at h
  · rename_i e sz bs z k n k' m hi hx hy
    have hu := (ctx.types t _ hi).und
    simp only [UOk] at hu
    have hvx := ctx.ev x
    have hvy := ctx.ev y
    rw [hx] at hvx
    rw [hy] at hvy
    simp only [Rep] at hvx hvy
    split at h
    · rename_i ti hti
      rw [asrt_iff] at h
      obtain ⟨h5, ⟨h0, h1, h2, h3⟩, h⟩ := h
      have ht := ctx.types e ti hti
      have h4 : ti.zero.cells.toList.length = ti.size := by rw [Array.length_toList]; exact ht.size
      obtain ⟨tinfo, i1, i2, i3, i4⟩ := ht.info
      have hone : ti.zero.cells.toList.all Value.oneCell' = true := by
        have := ht.flat
        cases hz : ti.zero with
        | agg arr => rw [hz] at this; simpa [Flat, Value.cells] using this
        | tuple arr => rw [hz] at this; simp [Flat] at this
        | _ => simp [Value.cells, Value.oneCell']
      have hc : Rep w base loc (.v (.agg ⟨rep n.toNat ti.zero.cells.toList⟩)) (.agg ⟨rep n.toNat ti.zero.cells.toList⟩) := by
        simp only [Rep, Flat, true_and]; exact all_rep _ hone
      have hl : (rep n.toNat ti.zero.cells.toList).length = n.toNat * ti.size := by rw [rep_length, h4]
      obtain ⟨ef, k1, k2⟩ := eff_new (e := e) (y := .slice (some ⟨w.heap.size, 0, none⟩) n.toNat m.toNat) ctx hd h hc (rep (m.toNat - n.toNat) ti.zero.cells.toList) (fun j loc' hl' => by
        rw [Rep]
        refine ⟨_, _, _, _, rfl, by omega, hl', by omega, fun _ => ⟨rfl, hl.symm⟩, 0, rfl, fun _ => rfl, fun _ => ⟨rfl, _, _, _, heap_new _ _, ?_⟩⟩
        simp only [List.size_toArray, ← rep_add, rep_length, h4]
        have : n.toNat + (m.toNat - n.toNat) = m.toNat := by omega
        rw [this]
        exact Nat.le_refl _)
      refine .inl ⟨_, _, hex _ _ ?_, ef, k1, k2⟩
      have hb : (tinfo.bytes : Int) * m ≤ 281474976710656 := by rw [i3, Int.mul_comm]; omega
      have := run_make (P := P) w t e tinfo ti.zero hu i1 i4 k k' n m h0 h1 hb (by omega)
      rw [hvx.1, hvy.1, this]
      congr 3
      apply Array.ext'
      rw [i2, ← rep_add]
      have hmn : n.toNat + (m.toNat - n.toNat) = m.toNat := by omega
      rw [hmn, ← ht.size]
      exact zeros_rep _ _
    · exact h.elim
  · exact h.elim

/-- ALL OF THEM. -/
theorem quiet_sound (ctx : Ctx P T w base loc s a) (hd : ∀ i, o.dst = some i → i < lentKey) (h : quietK P T o s K) : Goal P w base loc s a o K := by
  have h' := h
  unfold quietK at h
  split at h
  · rename_i x ho; exact goal_move ctx (by simp [execOp, ho]) h
  · rename_i x ho; exact goal_move ctx (by simp [execOp, ho]) h
  · rename_i c x y ho
    have hv := ctx.ev c
    split at h
    · rename_i b hb
      rw [hb] at hv
      simp only [Rep] at hv
      cases b
      · exact goal_move ctx (x := y) (by simp [execOp, ho, hv.1, asBool]) h
      · exact goal_move ctx (x := x) (by simp [execOp, ho, hv.1, asBool]) h
    · exact h.elim
  · rename_i t ho
    split at h
    · rename_i i hi; exact goal_alloc ctx hd ho hi h
    · exact h.elim
  · rename_i t x ho; exact goal_box ctx hd ho h
  · rename_i t parts ho; exact goal_build ctx ho h'
  · rename_i t len parts ho; exact goal_buildSlice ctx hd ho h'
  · rename_i t x ho
    have hv := ctx.ev x
    split at h
    · rename_i id off hx
      rw [hx] at hv
      simp only [Rep] at hv
      obtain ⟨b, n, h1, hy⟩ := hv
      split at h
      · rename_i c hc
        obtain ⟨l, xs, g1, g2, g3⟩ := ctx.mem id c hc
        rw [h1] at g1
        simp only [Option.some.injEq, Prod.mk.injEq] at g1
        obtain ⟨rfl, _⟩ := g1
        obtain ⟨d, z, k1, k2, k3⟩ := loadK_sound ctx.types h g2 (At.of_blk g3)
        rw [Nat.zero_add] at k2
        exact goal_val (S := Instr.loadAt t (a.eval x)) (by simp [execOp, ho]) ⟨d, z, k1, by simp [Instr.loadAt, hy, Instr.sureAddr, k2], k3⟩
      · exact h.elim
    · rename_i m c off hx
      rw [hx] at hv
      simp only [Rep] at hv
      obtain ⟨b, oo, xs, hy, h2, h3, h4, h5⟩ := hv
      obtain ⟨d, z, k1, k2, k3⟩ := loadK_sound ctx.types h h5 h2
      exact goal_val (S := Instr.loadAt t (a.eval x)) (by simp [execOp, ho]) ⟨d, z, k1, by simp [Instr.loadAt, hy, Instr.sureAddr, k2], k3⟩
    · exact h.elim
  · rename_i op t x y t' ho
    exact goal_val (S := (do eqGuard op t x y (a.eval x) (a.eval y); binOp op t (a.eval x) (a.eval y))) (by simp [execOp, ho]) (binK_sound ctx.types x y h (ctx.ev x) (ctx.ev y))
  · rename_i op t x ho
    exact goal_val (S := Op.unary op (a.eval x)) (by simp [execOp, ho]) (unK_sound h (ctx.ev x))
  · rename_i t u x ho; exact goal_conv ctx ho h
  · rename_i t ho
    refine .inl ⟨.map (some w.heap.size), w.alloc (.map #[] 0), by simp [execOp, ho, Instr.makeMap, newObj]; rfl, .val .mp, h, below_new _ _, ?_⟩
    simp only [Rep]
    exact ⟨w.heap.size, #[], 0, rfl, ctx.le, heap_new _ _, fun e he => by simp at he⟩
  · rename_i fn first caps ho
    refine goal_val (S := Instr.makeFunc fn (first.map a.eval) (caps.map a.eval)) (by simp [execOp, ho]) ⟨_, _, h, rfl, ?_⟩
    simp only [Rep]
    refine ⟨first.toList.map a.eval, caps.toList.map a.eval, ?_, evs_rep ctx.ev _, evs_rep ctx.ev _⟩
    congr 1 <;> (apply Array.ext'; simp)
  · rename_i t x y ho; exact goal_make ctx hd ho h'
  · rename_i t x lo hi mx ho
    exact goal_val (S := Instr.sliceAt t (a.eval x) (lo.map a.eval) (hi.map a.eval) (mx.map a.eval)) (by simp [execOp, ho]) (sliceK_sound ctx.types ctx.ev ctx.mem h (ctx.ev x))
  · rename_i t x f ho
    exact goal_val (S := Instr.fieldAt t (a.eval x) f) (by simp [execOp, ho]) (fieldAddrK_sound ctx.types h (ctx.ev x))
  · rename_i t x f ho
    exact goal_val (S := Instr.field t (a.eval x) f) (by simp [execOp, ho]) (fieldK_sound ctx.types h (ctx.ev x))
  · rename_i t x i ho
    exact goal_val (S := Instr.indexAt t (a.eval x) (a.eval i)) (by simp [execOp, ho]) (indexAddrK_sound ctx.types h (ctx.ev x) (ctx.ev i))
  · rename_i t x i ho
    exact goal_val (S := Instr.index t (a.eval x) (a.eval i)) (by simp [execOp, ho]) (indexK_sound ctx.types h (ctx.ev x) (ctx.ev i))
  · rename_i x i ho
    have hv := ctx.ev x
    split at h
    · rename_i ds hx
      rw [hx] at hv
      simp only [Rep] at hv
      obtain ⟨vs, hy, hr⟩ := hv
      split at h
      · rename_i d hdd
        rw [force_eq] at h
        obtain ⟨y, k1, k2⟩ := hr.get _ _ hdd
        exact goal_val (S := Instr.extract (a.eval x) i) (by simp [execOp, ho]) ⟨d, y, h, by simp [Instr.extract, hy, k1], k2⟩
      · exact h.elim
    · exact h.elim
  · rename_i x ho
    have hv := ctx.ev x
    split at h
    · rename_i id off hx
      rw [hx] at hv
      have hv' := hv
      simp only [Rep] at hv
      obtain ⟨b, n, h1, hy⟩ := hv
      exact .inl ⟨_, w, by simp [execOp, ho, hy]; rfl, _, h, RowKit.Below.refl _ _, by rw [hy] at hv'; exact hv'⟩
    · rename_i m c off hx
      rw [hx] at hv
      have hv' := hv
      simp only [Rep] at hv
      obtain ⟨b, oo, xs, hy, _⟩ := hv
      exact .inl ⟨_, w, by simp [execOp, ho, hy]; rfl, _, h, RowKit.Below.refl _ _, by rw [hy] at hv'; exact hv'⟩
    · exact h.elim
  · rename_i b args ts ho; exact goal_builtin ctx ho h
  · rename_i f args ts ho; exact goal_call ctx ho h
  · exact h.elim

end
end Go.V
