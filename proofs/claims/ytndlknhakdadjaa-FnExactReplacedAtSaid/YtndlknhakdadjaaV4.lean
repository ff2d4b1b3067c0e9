/- The abstract states are sound, third part: each operation by itself. -/
import Derived.Test.YtndlknhakdadjaaV3
import Derived.Lib.ConvBytes
import Derived.Laws.BytesString
import Derived.Laws.MakeOwn
import Derived.Laws.Append
import Derived.Laws.Slices
set_option linter.unusedVariables false
set_option linter.unusedSimpArgs false
namespace Go.V

section
variable {P : Program} {T : Types} {w : World} {base : Nat} {loc : Loc}

theorem asAddr_run {a : Addr} : (asAddr (.pointer (some a))).run P w = .ok a w := rfl

theorem fieldAddrK_sound (hT : TOk P T) {t : TypeId} {x : D} {f : Nat} {K : D → Prop} {y : Value} (h : fieldAddrK T t x f K) (hx : Rep w base loc x y) :
    ∃ d z, K d ∧ (Instr.fieldAt t y f).run P w = .ok z w ∧ Rep w base loc d z := by
  unfold fieldAddrK at h
  split at h
  · rename_i fs sz bs z hi
    obtain ⟨fields, hu, hfs⟩ := (hT t _ hi).und
    split at h
    · rename_i fo ft hf
      have hff : ∃ F : Field, fields[f]? = some F ∧ F.offset = fo ∧ F.type = ft := by
        rw [← hfs, List.getElem?_map] at hf
        cases hg : fields.toList[f]? with
        | none => simp [hg] at hf
        | some F =>
          simp only [hg, Option.map_some, Option.some.injEq, Prod.mk.injEq] at hf
          exact ⟨F, by simpa using hg, hf.1, hf.2⟩
      obtain ⟨F, hF, rfl, rfl⟩ := hff
      split at h
      · rename_i i hti
        split at h
        · exact h.elim
        · rename_i n hn
          have hne : ¬ i.size = 0 := by omega
          have key : ∀ b o, (Instr.fieldAt t (.pointer (some ⟨b, o, none⟩)) f).run P w = .ok (.pointer (some ⟨b, o + F.offset, none⟩)) w := by
            intro b o
            simp [Instr.fieldAt, run_under hu, hF, Instr.sureAddr, fieldPlace, run_size hT hti, hne, addr_add]
          split at h
          · rename_i id off
            simp only [Rep] at hx
            obtain ⟨b, n', h1, rfl⟩ := hx
            exact ⟨_, _, h, key _ _, by simp only [Rep]; exact ⟨b, n', h1, rfl⟩⟩
          · rename_i m c off
            simp only [Rep] at hx
            obtain ⟨b, o, xs, rfl, h2⟩ := hx
            exact ⟨_, _, h, key _ _, by simp only [Rep]; exact ⟨b, o, xs, by rw [Nat.add_assoc], h2⟩⟩
          · exact h.elim
      · exact h.elim
    · exact h.elim
  · exact h.elim

theorem fieldK_sound (hT : TOk P T) {t : TypeId} {x : D} {f : Nat} {K : D → Prop} {y : Value} (h : fieldK T t x f K) (hx : Rep w base loc x y) :
    ∃ d z, K d ∧ (Instr.field t y f).run P w = .ok z w ∧ Rep w base loc d z := by
  unfold fieldK at h
  split at h
  · rename_i fs sz bs z hi
    obtain ⟨fields, hu, hfs⟩ := (hT t _ hi).und
    split at h
    · rename_i fo ft hf
      have hff : ∃ F : Field, fields[f]? = some F ∧ F.offset = fo ∧ F.type = ft := by
        rw [← hfs, List.getElem?_map] at hf
        cases hg : fields.toList[f]? with
        | none => simp [hg] at hf
        | some F =>
          simp only [hg, Option.map_some, Option.some.injEq, Prod.mk.injEq] at hf
          exact ⟨F, by simpa using hg, hf.1, hf.2⟩
      obtain ⟨F, hF, rfl, rfl⟩ := hff
      have hagg : ∃ xs, y = .agg ⟨xs⟩ := by
        cases x with
        | v x' =>
          simp only [Rep] at hx
          obtain ⟨rfl, _⟩ := hx
          cases y with
          | agg a => exact ⟨a.toList, rfl⟩
          | _ => simp [partK, loadK, subK, getK] at h; split at h <;> (try split at h) <;> exact h.elim
        | agg ds => simp only [Rep] at hx; obtain ⟨vs, rfl, _⟩ := hx; exact ⟨vs, rfl⟩
        | _ => simp [partK, loadK, subK, getK] at h; split at h <;> (try split at h) <;> exact h.elim
      obtain ⟨xs, rfl⟩ := hagg
      obtain ⟨d, z, h1, h2, h3⟩ := partK_sound hT h hx
      exact ⟨d, z, h1, by simp [Instr.field, run_under hu, hF, asAgg, h2], h3⟩
    · exact h.elim
  · exact h.elim

theorem indexAddrK_sound (hT : TOk P T) {t : TypeId} {x i : D} {K : D → Prop} {y z : Value} (h : indexAddrK T t x i K) (hx : Rep w base loc x y) (hi : Rep w base loc i z) :
    ∃ d u, K d ∧ (Instr.indexAt t y z).run P w = .ok u w ∧ Rep w base loc d u := by
  unfold indexAddrK at h
  split at h
  · rename_i k n
    simp only [Rep] at hi
    obtain ⟨rfl, _⟩ := hi
    split at h
    · rename_i len e sz bs zr hti
      have hu := (hT t _ hti).und
      simp only [UOk] at hu
      split at h
      · rename_i ti hte
        obtain ⟨⟨h0, h1⟩, h⟩ := h
        have key : ∀ b o, (Instr.indexAt t (.pointer (some ⟨b, o, none⟩)) (.int k n)).run P w = .ok (.pointer (some ⟨b, o + n.toNat * ti.size, none⟩)) w := by
          intro b o
          simp [Instr.indexAt, asIntOf, run_under hu, Instr.sureAddr, h0, h1, run_size hT hte, addr_add]
        split at h
        · rename_i id off
          simp only [Rep] at hx
          obtain ⟨b, n', h2, rfl⟩ := hx
          exact ⟨_, _, h, key _ _, by simp only [Rep]; exact ⟨b, n', h2, rfl⟩⟩
        · rename_i m c off
          simp only [Rep] at hx
          obtain ⟨b, o, xs, rfl, h2⟩ := hx
          exact ⟨_, _, h, key _ _, by simp only [Rep]; exact ⟨b, o, xs, by rw [Nat.add_assoc], h2⟩⟩
        · exact h.elim
      · exact h.elim
    · rename_i e sz bs zr hti
      have hu := (hT t _ hti).und
      simp only [UOk] at hu
      split at h
      · rename_i ti hte
        split at h
        · rename_i f s id off len
          rw [asrt_iff] at h
          obtain ⟨hsz, ⟨h0, h1⟩, h⟩ := h
          obtain rfl : s = ti.size := by simpa using hsz
          simp only [Rep] at hx
          obtain ⟨a, cap, l, n', rfl, h3, h4, h5, h6, h7⟩ := hx
          cases l with
          | none => omega
          | some b =>
            obtain ⟨o, rfl, h8, _⟩ := h7
            have ho : o = off := h8 (by omega)
            subst ho
            exact ⟨_, .pointer (some ⟨b, o + n.toNat * ti.size, none⟩), h, by simp [Instr.indexAt, asIntOf, run_under hu, h0, h1, run_size hT hte, addr_add], by simp only [Rep]; exact ⟨b, n', h4, rfl⟩⟩
        · rename_i m s c len
          rw [asrt_iff] at h
          obtain ⟨hsz, ⟨h0, h1⟩, h⟩ := h
          simp only [Bool.and_eq_true, beq_iff_eq, bne_iff_ne, ne_eq] at hsz
          obtain ⟨rfl, hs⟩ := hsz
          simp only [Rep] at hx
          obtain ⟨a, cap, xs, rfl, h3, h4, h5, h6⟩ := hx
          rcases h6 with h6 | ⟨b, o, rfl, h7⟩
          · exfalso
            rcases Nat.mul_eq_zero.1 h6 with h6 | h6 <;> omega
          · refine ⟨_, .pointer (some ⟨b, o + n.toNat * ti.size, none⟩), h, by simp [Instr.indexAt, asIntOf, run_under hu, h0, h1, run_size hT hte, addr_add], ?_⟩
            simp only [Rep]
            exact ⟨b, o, xs, rfl, h7.1, h7.2.1, h7.2.2, h4⟩
        · exact h.elim
      · exact h.elim
    · exact h.elim
  · exact h.elim

theorem indexK_sound (hT : TOk P T) {t : TypeId} {x i : D} {K : D → Prop} {y z : Value} (h : indexK T t x i K) (hx : Rep w base loc x y) (hi : Rep w base loc i z) :
    ∃ d u, K d ∧ (Instr.index t y z).run P w = .ok u w ∧ Rep w base loc d u := by
  unfold indexK at h
  split at h
  · rename_i k n
    simp only [Rep] at hi
    obtain ⟨rfl, _⟩ := hi
    split at h
    · rename_i len e sz bs zr hti
      have hu := (hT t _ hti).und
      simp only [UOk] at hu
      split at h
      · rename_i ti hte
        obtain ⟨⟨h0, h1⟩, h⟩ := h
        have hagg : ∃ xs, y = .agg ⟨xs⟩ := by
          cases x with
          | v x' =>
            simp only [Rep] at hx
            obtain ⟨rfl, _⟩ := hx
            cases y with
            | agg a => exact ⟨a.toList, rfl⟩
            | _ => simp [partK, loadK, subK, getK] at h; split at h <;> (try split at h) <;> exact h.elim
          | agg ds => simp only [Rep] at hx; obtain ⟨vs, rfl, _⟩ := hx; exact ⟨vs, rfl⟩
          | _ => simp [partK, loadK, subK, getK] at h; split at h <;> (try split at h) <;> exact h.elim
        obtain ⟨xs, rfl⟩ := hagg
        obtain ⟨d, u, g1, g2, g3⟩ := partK_sound hT h hx
        exact ⟨d, u, g1, by simp [Instr.index, asIntOf, run_under hu, h0, h1, run_size hT hte, g2], g3⟩
      · exact h.elim
    · rename_i sz bs zr hti
      have hu := (hT t _ hti).und
      simp only [UOk] at hu
      split at h
      · rename_i b
        obtain ⟨⟨h0, h1⟩, h⟩ := h
        simp only [Rep] at hx
        obtain ⟨rfl, _⟩ := hx
        have hlt : n.toNat < b.size := by omega
        have hg : b[n.toNat]? = some b[n.toNat] := by simp [hlt]
        refine ⟨_, .int .u8 (b[n.toNat]).toNat, h, ?_, ?_⟩
        · simp only [Instr.index, Sem.run_bind, asIntOf, Sem.run_pure, Result.andThen_ok, run_under hu, h0, if_true, hg]
        · simp only [Rep, byteAt, Flat, and_true, Value.int.injEq, true_and]
          have : b.data.toList.getD n.toNat 0 = b[n.toNat] := by
            have : n.toNat < b.data.toList.length := by simpa using hlt
            rw [List.getD_eq_getElem?_getD, List.getElem?_eq_getElem this, Option.getD_some]; rfl
          rw [this]
      · exact h.elim
    · exact h.elim
  · exact h.elim

theorem guard_int (op : BinOp) (t : TypeId) (x y : Operand) (k k' : IntKind) (a b : Int) : (eqGuard op t x y (.int k a) (.int k' b)).run P w = .ok () w := by
  unfold eqGuard; cases op <;> rfl
theorem guard_str (op : BinOp) (t : TypeId) (x y : Operand) (a b : ByteArray) : (eqGuard op t x y (.string a) (.string b)).run P w = .ok () w := by
  unfold eqGuard; cases op <;> rfl

theorem guard_bool (op : BinOp) (t : TypeId) (x y : Operand) (a b : Bool) : (eqGuard op t x y (.bool a) (.bool b)).run P w = .ok () w := by
  unfold eqGuard; cases op <;> rfl
theorem equal_bool {t : TypeId} (h : P.underlying t = some .bool) (a b : Bool) : (Op.equal t (.bool a) (.bool b)).run P w = .ok (a == b) w := by
  unfold Op.equal Op.maxDepth Op.equalIn
  simp [run_under h]

theorem binK_sound (hT : TOk P T) {op : BinOp} {t : TypeId} {x y : D} {K : D → Prop} {u v : Value} (ox oy : Operand) (h : binK P T op t x y K) (hx : Rep w base loc x u) (hy : Rep w base loc y v) :
    ∃ d z, K d ∧ (do eqGuard op t ox oy u v; binOp op t u v : Sem Value).run P w = .ok z w ∧ Rep w base loc d z := by
  unfold binK at h
  split at h
  · rename_i k a k' b
    simp only [Rep] at hx hy
    obtain ⟨rfl, _⟩ := hx
    obtain ⟨rfl, _⟩ := hy
    have fin : ∀ z, Flat z = true → K (.v z) → (binOp op t (.int k a) (.int k' b)).run P w = .ok z w → ∃ d z, K d ∧ (do eqGuard op t ox oy (.int k a) (.int k' b); binOp op t (.int k a) (.int k' b) : Sem Value).run P w = .ok z w ∧ Rep w base loc d z :=
      fun z hz hk hr => ⟨_, z, hk, by simp [guard_int, hr], by simp only [Rep, true_and]; exact hz⟩
    split at h
    · obtain ⟨h0, h⟩ := h
      have h0' : ¬ b < 0 := by omega
      exact fin _ rfl h (by simp [binOp, Op.shift, h0'])
    · obtain ⟨h0, h⟩ := h
      have h0' : ¬ b < 0 := by omega
      exact fin _ rfl h (by simp [binOp, Op.shift, h0'])
    · rw [asrt_iff] at h
      obtain ⟨hkk, h⟩ := h
      obtain rfl : k = k' := by simpa using hkk
      split at h
      · exact fin _ rfl h (by simp [binOp, Op.intArith])
      · exact fin _ rfl h (by simp [binOp, Op.intArith])
      · exact fin _ rfl h (by simp [binOp, Op.intArith])
      · exact fin _ rfl h.2 (by simp [binOp, Op.intDiv, h.1])
      · exact fin _ rfl h.2 (by simp [binOp, Op.intDiv, h.1])
      · exact fin _ rfl h (by simp [binOp, Op.intBits])
      · exact fin _ rfl h (by simp [binOp, Op.intBits])
      · exact fin _ rfl h (by simp [binOp, Op.intBits])
      · exact fin _ rfl h (by simp [binOp, Op.intBits])
      · split at h
        · rename_i r hr
          refine fin _ rfl h ?_
          cases op <;> first | (simp only [intCmpB, reduceCtorEq] at hr; done) | (simp only [intCmpB, Option.some.injEq] at hr; subst hr; simp [binOp, Op.intCmp])
        · exact h.elim
  · rename_i a b
    simp only [Rep] at hx hy
    obtain ⟨rfl, _⟩ := hx
    obtain ⟨rfl, _⟩ := hy
    have fin : ∀ z, Flat z = true → K (.v z) → (binOp op t (.string a) (.string b)).run P w = .ok z w → ∃ d z, K d ∧ (do eqGuard op t ox oy (.string a) (.string b); binOp op t (.string a) (.string b) : Sem Value).run P w = .ok z w ∧ Rep w base loc d z :=
      fun z hz hk hr => ⟨_, z, hk, by simp [guard_str, hr], by simp only [Rep, true_and]; exact hz⟩
    split at h
    · obtain ⟨h0, h⟩ := h
      refine fin _ rfl h ?_
      have : ¬ (((a.size + b.size : Nat) : Int) > IntKind.i64.max) := by omega
      simp only [binOp, Op.stringOp, if_neg this, Sem.run_pure]
    · split at h
      · rename_i r hr
        refine fin _ rfl h ?_
        cases op <;> first | (simp only [strCmpB, reduceCtorEq] at hr; done) | (simp only [strCmpB, Option.some.injEq] at hr; subst hr; simp [binOp, Op.stringOp])
      · exact h.elim
  · rename_i a b
    simp only [Rep] at hx hy
    obtain ⟨rfl, _⟩ := hx
    obtain ⟨rfl, _⟩ := hy
    split at h
    · obtain ⟨r, he, h⟩ := h
      obtain ⟨e1, e2⟩ := he w
      exact ⟨_, .bool r, h, by simp only [Sem.run_bind, e1, Result.andThen_ok, binOp, e2, Sem.run_pure], by simp [Rep, Flat]⟩
    · obtain ⟨r, he, h⟩ := h
      obtain ⟨e1, e2⟩ := he w
      exact ⟨_, .bool (!r), h, by simp only [Sem.run_bind, e1, Result.andThen_ok, binOp, e2, Sem.run_pure], by simp [Rep, Flat]⟩
    · exact h.elim
  · rename_i a b
    simp only [Rep] at hx hy
    obtain ⟨rfl, _⟩ := hx
    obtain ⟨rfl, _⟩ := hy
    split at h
    · rename_i ht
      exact ⟨_, .bool (a == b), h, by simp only [Sem.run_bind, guard_bool, Result.andThen_ok, binOp, equal_bool (hT t _ ht).und, Sem.run_pure], by simp [Rep, Flat]⟩
    · rename_i ht
      exact ⟨_, .bool (!(a == b)), h, by simp only [Sem.run_bind, guard_bool, Result.andThen_ok, binOp, equal_bool (hT t _ ht).und, Sem.run_pure], by simp [Rep, Flat]⟩
    · exact h.elim
  · exact h.elim

theorem unK_sound {op : UnOp} {x : D} {K : D → Prop} {u : Value} (h : unK op x K) (hx : Rep w base loc x u) :
    ∃ d z, K d ∧ (Op.unary op u).run P w = .ok z w ∧ Rep w base loc d z := by
  unfold unK at h
  split at h
  all_goals first
    | exact h.elim
    | (simp only [Rep] at hx
       obtain ⟨rfl, _⟩ := hx
       refine ⟨_, _, h, rfl, ?_⟩
       simp [Rep, Flat])

theorem optI_run {s : St} {a : Act} (hev : ∀ x, Rep w base loc (s.ev x) (a.eval x)) {o : Option Operand} {l : Option Int} (h : optI s o = some l) :
    (o.map a.eval) = l.map (fun n => Value.int .i64 n) ∨ ∃ k n, o.map a.eval = some (.int k n) ∧ l = some n := by
  cases o with
  | none => simp only [optI, Option.some.injEq] at h; subst h; exact .inl rfl
  | some x =>
    simp only [optI] at h
    split at h
    · rename_i k n hx
      simp only [Option.some.injEq] at h
      subst h
      have := hev x
      rw [hx] at this
      simp only [Rep] at this
      exact .inr ⟨k, n, by simp [this.1], rfl⟩
    · simp at h

theorem run_bounds (isSlice : Bool) (len cap : Nat) {lo hi : Option Value} {l h : Option Int}
    (hl : lo = none ∧ l = none ∨ ∃ k n, lo = some (.int k n) ∧ l = some n) (hh : hi = none ∧ h = none ∨ ∃ k n, hi = some (.int k n) ∧ h = some n)
    (h0 : 0 ≤ l.getD 0) (h1 : l.getD 0 ≤ h.getD len) (h2 : h.getD len ≤ cap) :
    (Instr.sliceBounds isSlice len cap lo hi none).run P w = .ok ((l.getD 0).toNat, (h.getD (len : Int)).toNat, cap) w := by
  rcases hl with ⟨rfl, rfl⟩ | ⟨k, n, rfl, rfl⟩ <;> rcases hh with ⟨rfl, rfl⟩ | ⟨k', n', rfl, rfl⟩
  · simp [Instr.sliceBounds]
  · simp only [Option.getD_some, Option.getD_none] at h0 h1 h2
    simp [Instr.sliceBounds, run_sliceBound, h1, h2]
  · simp only [Option.getD_some, Option.getD_none] at h0 h1 h2
    simp [Instr.sliceBounds, run_sliceBound, h0, h1]
  · simp only [Option.getD_some] at h0 h1 h2
    have e : ((n'.toNat : Nat) : Int) = n' := by omega
    have h3 : 0 ≤ n' := by omega
    simp [Instr.sliceBounds, run_sliceBound, h0, h1, h2, e, h3]

theorem optI_cases {s : St} {a : Act} (hev : ∀ x, Rep w base loc (s.ev x) (a.eval x)) {o : Option Operand} {l : Option Int} (h : optI s o = some l) :
    (o.map a.eval = none ∧ l = none) ∨ ∃ k n, o.map a.eval = some (.int k n) ∧ l = some n := by
  cases o with
  | none => simp only [optI, Option.some.injEq] at h; subst h; exact .inl ⟨rfl, rfl⟩
  | some x =>
    simp only [optI] at h
    split at h
    · rename_i k n hx
      simp only [Option.some.injEq] at h
      subst h
      have := hev x
      rw [hx] at this
      simp only [Rep] at this
      exact .inr ⟨k, n, by simp [this.1], rfl⟩
    · simp at h

theorem sliceK_sound (hT : TOk P T) {s : St} {a : Act} (hev : ∀ x, Rep w base loc (s.ev x) (a.eval x)) (hm : MemOk w base loc s.m) {t : TypeId} {x : D} {lo hi mx : Option Operand} {K : D → Prop} {y : Value}
    (h : sliceK T s t x lo hi mx K) (hx : Rep w base loc x y) :
    ∃ d z, K d ∧ (Instr.sliceAt t y (lo.map a.eval) (hi.map a.eval) (mx.map a.eval)).run P w = .ok z w ∧ Rep w base loc d z := by
  unfold sliceK at h
  split at h
  · rename_i sz bs zr b l hh hti hlo hhi
    have hu := (hT t _ hti).und
    simp only [UOk] at hu
    simp only [Rep] at hx
    obtain ⟨rfl, _⟩ := hx
    obtain ⟨⟨h0, h1, h2⟩, h⟩ := h
    have hb := run_bounds (P := P) (w := w) false b.size b.size (optI_cases hev hlo) (optI_cases hev hhi) h0 h1 h2
    refine ⟨_, .string (b.extract (l.getD 0).toNat (hh.getD (b.size : Int)).toNat), h, ?_, by simp only [Rep, true_and]; rfl⟩
    simp [Instr.sliceAt, Instr.slice, run_under hu, hb]
  · rename_i e sz bs zr f s' id off len l hh hti hlo hhi
    have hu := (hT t _ hti).und
    simp only [UOk] at hu
    split at h
    · rename_i i hte
      rw [asrt_iff] at h
      obtain ⟨hsz, ⟨h0, h1, h2⟩, h⟩ := h
      obtain rfl : s' = i.size := by simpa using hsz
      simp only [Rep] at hx
      obtain ⟨a0, cap, l', n', rfl, h3, h4, h5, h6, h7⟩ := hx
      have hb := run_bounds (P := P) (w := w) true len cap (optI_cases hev hlo) (optI_cases hev hhi) h0 h1 (by omega)
      refine ⟨_, sliced a0 (l.getD 0).toNat (hh.getD (len : Int)).toNat cap i.size, h, ?_, ?_⟩
      · simp [Instr.sliceAt, Instr.slice, run_under hu, hb, run_size hT hte, sliced]
      · simp only [Rep, sliced]
        have hle : (hh.getD (len : Int)).toNat ≤ len := by omega
        have hlh : (l.getD 0).toNat ≤ (hh.getD (len : Int)).toNat := by omega
        refine ⟨_, _, l', n', rfl, by omega, h4, ?_, by simp, ?_⟩
        · have : (l.getD 0).toNat * i.size + ((hh.getD (len : Int)).toNat - (l.getD 0).toNat) * i.size ≤ len * i.size := by
            rw [← Nat.add_mul]; exact Nat.mul_le_mul_right _ (by omega)
          omega
        · cases l' with
          | none => simp only at h7 ⊢; omega
          | some b =>
            obtain ⟨o, rfl, h8, _⟩ := h7
            by_cases hc : cap = (l.getD 0).toNat
            · simp only [hc, if_true]
              exact ⟨o, rfl, fun hne => by omega, by simp⟩
            · simp only [hc, if_false]
              refine ⟨o + (l.getD 0).toNat * i.size, by simp [addr_add], fun hne => ?_, by simp⟩
              rw [h8 (by omega)]
    · exact h.elim
  · rename_i e sz bs zr m s' c len l hh hti hlo hhi
    have hu := (hT t _ hti).und
    simp only [UOk] at hu
    split at h
    · rename_i i hte
      rw [asrt_iff] at h
      obtain ⟨hsz, ⟨h0, h1, h2⟩, h⟩ := h
      obtain rfl : s' = i.size := by simpa using hsz
      simp only [Rep] at hx
      obtain ⟨a0, cap, xs, rfl, h3, h4, h5, h6⟩ := hx
      obtain ⟨d, g1, g2, g3⟩ := subK_sound h h4
      have hb := run_bounds (P := P) (w := w) true len cap (optI_cases hev hlo) (optI_cases hev hhi) h0 h1 (by omega)
      refine ⟨_, sliced a0 (l.getD 0).toNat (hh.getD (len : Int)).toNat cap i.size, g1, ?_, ?_⟩
      · simp [Instr.sliceAt, Instr.slice, run_under hu, hb, run_size hT hte, sliced]
      · simp only [Rep, sliced]
        have hle : (hh.getD (len : Int)).toNat ≤ len := by omega
        have hlh : (l.getD 0).toNat ≤ (hh.getD (len : Int)).toNat := by omega
        refine ⟨_, _, _, rfl, by omega, g3, by simp; omega, ?_⟩
        by_cases hz : ((hh.getD (len : Int)).toNat - (l.getD 0).toNat) * i.size = 0
        · exact .inl hz
        · have hz1 : (hh.getD (len : Int)).toNat - (l.getD 0).toNat ≠ 0 := fun e => hz (by simp [e])
          have hz2 : i.size ≠ 0 := fun e => hz (by simp [e])
          rcases h6 with h6 | ⟨b, o, rfl, g4, g5, g6⟩
          · exfalso; rcases Nat.mul_eq_zero.1 h6 with h6 | h6 <;> omega
          · right
            have hc : ¬ cap = (l.getD 0).toNat := by omega
            simp only [hc, if_false]
            exact ⟨b, _, by simp [addr_add], g4.sub _ _ g2, g5, g6⟩
    · exact h.elim
  · rename_i n e sz bs zr id off l hh hti hlo hhi
    have hu := (hT t _ hti).und
    simp only [UOk] at hu
    split at h
    · rename_i i c hte hc
      obtain ⟨⟨h0, h1, h2, hw⟩, h⟩ := h
      simp only [Rep] at hx
      obtain ⟨b, n', g1, rfl⟩ := hx
      obtain ⟨l', xs, k1, k2, k3⟩ := hm id c hc
      rw [g1] at k1
      simp only [Option.some.injEq, Prod.mk.injEq] at k1
      obtain ⟨rfl, rfl⟩ := k1
      have hwx : (widC c).getD 0 ≤ xs.length := by
        cases c with
        | v x' =>
          cases x' with
          | agg arr => simp only [Rep, Value.agg.injEq] at k2; obtain ⟨rfl, _⟩ := k2; simp [widC]
          | _ => simp [widC]
        | agg ds => simp only [Rep, Value.agg.injEq, Array.mk.injEq] at k2; obtain ⟨vs, rfl, k4, _⟩ := k2; simp [widC, k4.length]
        | _ => simp [widC]
      have hb := run_bounds (P := P) (w := w) false n n (optI_cases hev hlo) (optI_cases hev hhi) h0 h1 h2
      have hle : (hh.getD (n : Int)).toNat ≤ n := by omega
      have hlh : (l.getD 0).toNat ≤ (hh.getD (n : Int)).toNat := by omega
      refine ⟨_, .slice (some (if n = (l.getD 0).toNat then ⟨b, off, none⟩ else ⟨b, off + (l.getD 0).toNat * i.size, none⟩)) ((hh.getD (n : Int)).toNat - (l.getD 0).toNat) (n - (l.getD 0).toNat), h, ?_, ?_⟩
      · simp [Instr.sliceAt, run_under hu, Instr.sureAddr, hb, run_size hT hte, addr_add]
      · simp only [Rep]
        refine ⟨_, _, some b, xs.length, rfl, by omega, g1, ?_, by simp, ?_⟩
        · have : (l.getD 0).toNat * i.size + ((hh.getD (n : Int)).toNat - (l.getD 0).toNat) * i.size ≤ n * i.size := by
            rw [← Nat.add_mul]; exact Nat.mul_le_mul_right _ (by omega)
          omega
        · by_cases hcn : n = (l.getD 0).toNat
          · rw [if_pos hcn]
            exact ⟨off, rfl, fun hne => by omega, by simp⟩
          · rw [if_neg hcn]
            exact ⟨_, rfl, fun _ => rfl, by simp⟩
    · exact h.elim
  · exact h.elim

end
end Go.V
