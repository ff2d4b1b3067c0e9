import Derived.Test.YtejncabmppobfaaW5
/- The abstract states are sound, tenth part: a region whose order is open, in whatever order. -/
set_option linter.unusedVariables false
set_option linter.unusedSimpArgs false
set_option linter.unusedSectionVars false
namespace Go.V
variable [Globs]

def dstAt (ops : Array Oper) (i : Nat) : Option Tmp := (ops[i]?).bind (·.dst)
def owner (ops : Array Oper) (k : Nat) (L : Nat → Bool) (x : Nat) : Option Nat := (List.range k).find? fun i => L i && (dstAt ops i == some x)
def effD : Eff → D
  | .val d => d
  | .new d _ => d
/-- The state behind some of the first k operations. -/
def stL (s0 : St) (ops : Array Oper) (k : Nat) (E : Nat → Eff) (L : Nat → Bool) : St where
  t x := match owner ops k L x with | some i => effD (E i) | none => s0.t x
  m id := match owner ops k L id.1 with
    | some i => (match E i with | .new _ f => if id.2.1 = s0.c id.1 then f id.2.2 else s0.m id | .val _ => s0.m id)
    | none => s0.m id
  c x := match owner ops k L x with
    | some i => (match E i with | .new _ _ => s0.c x + 1 | .val _ => s0.c x)
    | none => s0.c x

def Uniq (ops : Array Oper) (k : Nat) : Prop := ∀ i j d, i < k → j < k → i ≠ j → dstAt ops i = some d → dstAt ops j ≠ some d

section
variable {P : Program} {T : Types} {ops : Array Oper} {k : Nat} {s0 : St} {E E' : Nat → Eff} {L L' : Nat → Bool}

theorem blt_eq (a b : Nat) : Nat.blt a b = decide (a < b) := by
  unfold Nat.blt
  rw [Bool.eq_iff_iff, decide_eq_true_iff, Nat.ble_eq]
  exact Iff.rfl

theorem owner_some {x i : Nat} (hu : Uniq ops k) : owner ops k L x = some i ↔ i < k ∧ L i = true ∧ dstAt ops i = some x := by
  unfold owner
  constructor
  · intro h
    have h1 := List.find?_some h
    have h2 := List.mem_of_find?_eq_some h
    simp only [Bool.and_eq_true, beq_iff_eq] at h1
    exact ⟨by simpa using h2, h1.1, h1.2⟩
  · rintro ⟨h1, h2, h3⟩
    cases hf : (List.range k).find? fun i => L i && (dstAt ops i == some x) with
    | none =>
      have := List.find?_eq_none.1 hf i (by simpa using h1)
      simp [h2, h3] at this
    | some j =>
      have h4 := List.find?_some hf
      have h5 := List.mem_of_find?_eq_some hf
      simp only [Bool.and_eq_true, beq_iff_eq] at h4
      by_cases he : j = i
      · rw [he]
      · exact absurd h3 (hu j i x (by simpa using h5) h1 he h4.2)

theorem owner_none {x : Nat} : owner ops k L x = none ↔ ∀ i, i < k → L i = true → dstAt ops i ≠ some x := by
  unfold owner
  rw [List.find?_eq_none]
  constructor
  · intro h i h1 h2 h3
    have := h i (by simpa using h1)
    simp [h2, h3] at this
  · intro h i h1
    simp only [Bool.and_eq_true, beq_iff_eq, not_and]
    intro h2
    exact h i (by simpa using h1) h2

theorem owner_congr {x : Nat} (h : ∀ i, i < k → dstAt ops i = some x → L i = L' i) : owner ops k L x = owner ops k L' x := by
  unfold owner
  have : ∀ (l : List Nat), (∀ i ∈ l, i < k) → l.find? (fun i => L i && (dstAt ops i == some x)) = l.find? (fun i => L' i && (dstAt ops i == some x)) := by
    intro l hl
    induction l with
    | nil => rfl
    | cons i l ih =>
      simp only [List.find?_cons]
      have e : (L i && (dstAt ops i == some x)) = (L' i && (dstAt ops i == some x)) := by
        by_cases hd : dstAt ops i = some x
        · rw [h i (hl i (by simp)) hd]
        · have : (dstAt ops i == some x) = false := by simpa using hd
          simp [this]
      rw [e, ih (fun j hj => hl j (by simp [hj]))]
  exact this _ (fun i hi => by simpa using hi)

theorem stL_congr (hu : Uniq ops k) (h : ∀ i, i < k → L i = true → E i = E' i) : stL s0 ops k E L = stL s0 ops k E' L := by
  unfold stL
  congr 1
  · funext x
    cases ho : owner ops k L x with
    | none => rfl
    | some i => obtain ⟨h1, h2, _⟩ := (owner_some hu).1 ho; simp only [h i h1 h2]
  · funext id
    cases ho : owner ops k L id.1 with
    | none => rfl
    | some i => obtain ⟨h1, h2, _⟩ := (owner_some hu).1 ho; simp only [h i h1 h2]
  · funext x
    cases ho : owner ops k L x with
    | none => rfl
    | some i => obtain ⟨h1, h2, _⟩ := (owner_some hu).1 ho; simp only [h i h1 h2]

theorem stL_congrL (h : ∀ i, i < k → L i = L' i) : stL s0 ops k E L = stL s0 ops k E L' := by
  have e : ∀ x, owner ops k L x = owner ops k L' x := fun x => owner_congr fun i hi _ => h i hi
  unfold stL
  simp only [e]

theorem stL_insert (hu : Uniq ops k) {j : Nat} (hj : j < k) (hL : L j = false) (hL' : ∀ i, L' i = (i == j || L i)) : stL s0 ops k E L' = (stL s0 ops k E L).eff (dstAt ops j) (E j) := by
  cases hd : dstAt ops j with
  | none =>
    have e : ∀ x, owner ops k L' x = owner ops k L x := fun x => owner_congr fun i hi hx => by
      rw [hL']
      have : (i == j) = false := by
        simp only [beq_eq_false_iff_ne]
        rintro rfl
        rw [hd] at hx; cases hx
      simp [this]
    simp only [St.eff]
    unfold stL
    simp only [e]
  | some d =>
    have e1 : owner ops k L' d = some j := (owner_some hu).2 ⟨hj, by rw [hL']; simp, hd⟩
    have e2 : owner ops k L d = none := owner_none.2 fun i hi hl hx => by
      by_cases he : i = j
      · rw [he, hL] at hl; cases hl
      · exact hu i j d hi hj he hx hd
    have e3 : ∀ x, x ≠ d → owner ops k L' x = owner ops k L x := fun x hx => owner_congr fun i hi hdi => by
      rw [hL']
      have : (i == j) = false := by
        simp only [beq_eq_false_iff_ne]
        rintro rfl
        rw [hd] at hdi; cases hdi; exact hx rfl
      simp [this]
    have hc : (stL s0 ops k E L).c d = s0.c d := by simp only [stL, e2]
    have ht : (stL s0 ops k E L').t = upd (stL s0 ops k E L).t d (effD (E j)) := by
      funext x
      rw [upd_eq]
      by_cases hx : x = d
      · subst hx; simp only [stL, e1, if_true]
      · simp only [stL, e3 x hx, hx, if_false]
    cases hE : E j with
    | val v =>
      simp only [St.eff]
      have hm : (stL s0 ops k E L').m = (stL s0 ops k E L).m := by
        funext id
        by_cases hx : id.1 = d
        · simp only [stL, hx, e1, e2, hE]
        · simp only [stL, e3 _ hx]
      have hcc : (stL s0 ops k E L').c = (stL s0 ops k E L).c := by
        funext x
        by_cases hx : x = d
        · subst hx; simp only [stL, e1, e2, hE]
        · simp only [stL, e3 _ hx]
      rw [hE] at ht
      simp only [effD] at ht
      rw [← ht, ← hm, ← hcc]
    | new v f =>
      simp only [St.eff]
      have hm : (stL s0 ops k E L').m = updR (stL s0 ops k E L).m d ((stL s0 ops k E L).c d) f := by
        funext id
        rw [updR_eq, hc]
        by_cases hx : id.1 = d
        · simp only [stL, hx, e1, e2, hE, true_and]
        · simp only [stL, e3 _ hx, hx, false_and, if_false]
      have hcc : (stL s0 ops k E L').c = upd (stL s0 ops k E L).c d ((stL s0 ops k E L).c d + 1) := by
        funext x
        rw [upd_eq, hc]
        by_cases hx : x = d
        · subst hx; simp only [stL, e1, hE, if_true]
        · simp only [stL, e3 _ hx, hx, if_false]
      rw [hE] at ht
      simp only [effD] at ht
      rw [← ht, ← hm, ← hcc]

theorem guard_parts {ops : Array Oper} {o : Oper} {s : St} {yes no : Prop} (h : guardK ops o s yes no) : (guardK ops o s True False ∧ yes) ∨ (guardK ops o s False True ∧ no) := by
  unfold guardK at h ⊢
  split at h
  · exact .inl ⟨trivial, h⟩
  · split at h
    · rename_i b hb
      split at h
      · exact .inl ⟨trivial, h⟩
      · exact .inl ⟨trivial, h⟩
      · exact .inr ⟨trivial, h⟩
    · exact .inr ⟨trivial, h⟩
    · exact h.elim
  · exact h.elim

theorem guard_join {ops : Array Oper} {o : Oper} {s : St} {yes no : Prop} (h : (guardK ops o s True False ∧ yes) ∨ (guardK ops o s False True ∧ no)) : guardK ops o s yes no := by
  unfold guardK at h ⊢
  split
  · rename_i hg
    simp only [hg] at h
    rcases h with h | h
    · exact h.2
    · exact h.1.elim
  · rename_i g want hg
    simp only [hg] at h
    split
    · rename_i b hb
      simp only [hb] at h
      cases b <;> cases want <;> simp_all
    · rename_i hb
      simp only [hb] at h
      rcases h with h | h
      · exact h.1.elim
      · exact h.2
    · rename_i hb
      rcases h with h | h
      · have := h.1; split at this <;> simp_all
      · have := h.1; split at this <;> simp_all
  · rename_i hg
    simp only [hg] at h
    rcases h with h | h <;> exact h.1.elim

theorem guardK_congr {ops : Array Oper} {o : Oper} {s s' : St} {yes no : Prop} (h : ∀ x ∈ o.looksAt ops, s.t x = s'.t x) (hg : guardK ops o s yes no) : guardK ops o s' yes no := by
  unfold guardK guardOf at hg ⊢
  cases hgd : o.guard with
  | none => rw [hgd] at hg; exact hg
  | some jw =>
    obtain ⟨j, want⟩ := jw
    rw [hgd] at hg
    simp only at hg ⊢
    cases hq : (ops[j]?).bind (·.dst) with
    | none => rw [hq] at hg; exact hg
    | some g =>
      rw [hq] at hg
      simp only at hg ⊢
      have : g ∈ o.looksAt ops := by
        unfold Oper.looksAt
        rw [hgd]
        simp [hq]
      rw [← h g this]
      exact hg

/-- What the operation i leaves, if it comes behind those before it in the text. -/
def StepOk (P : Program) (T : Types) (ops : Array Oper) (bs : Array Nat) (k : Nat) (s0 : St) (E : Nat → Eff) (i : Nat) : Prop :=
  ∃ o, ops[i]? = some o ∧
    ((guardK ops o (stL s0 ops k E fun x => Nat.blt x i) True False ∧ quietK P T o ((stL s0 ops k E fun x => Nat.blt x i).hide (unseen ops bs k i) s0.c) (fun e => e = E i)) ∨
     (guardK ops o (stL s0 ops k E fun x => Nat.blt x i) False True ∧ E i = .val (.tup [])))

theorem draw_steps {bs : Array Nat} (hu : Uniq ops k) (hk : k ≤ ops.size) {K : St → Prop} : ∀ (m j : Nat) (E0 : Nat → Eff), j + m = k →
    drawWp P T ops bs k s0.c j (ops.toList.drop j) K (stL s0 ops k E0 fun x => Nat.blt x j) →
    ∃ E, (∀ i, i < j → E i = E0 i) ∧ (∀ i, j ≤ i → i < k → StepOk P T ops bs k s0 E i) ∧ finWp P T ops (lateLds ops bs k 0 ops.toList) (ops.toList.drop k) K (stL s0 ops k E fun x => Nat.blt x k) ∧
      (k < ops.size → apart ops bs k (stL s0 ops k E fun x => Nat.blt x k) 0 ops.toList = true)
  | 0, j, E0, hj, h => by
    have hjk : j = k := by omega
    subst hjk
    refine ⟨E0, fun _ _ => rfl, fun i h1 h2 => by omega, ?_⟩
    cases hd : ops.toList.drop j with
    | nil =>
      rw [hd] at h
      refine ⟨h, fun hj => ?_⟩
      have := List.drop_eq_nil_iff.1 hd
      simp at this
      omega
    | cons o r =>
      rw [hd] at h
      have hb : Nat.blt j j = false := by simp [blt_eq]
      simp only [drawWp, hb, cond_false, asrt_iff] at h
      exact ⟨h.2, fun _ => h.1⟩
  | m + 1, j, E0, hj, h => by
    have hlt : j < ops.size := by omega
    have hdrop : ops.toList.drop j = ops[j] :: ops.toList.drop (j + 1) := by
      rw [List.drop_eq_getElem_cons (by simpa using hlt)]
      simp
    have ho : ops[j]? = some ops[j] := by simp [hlt]
    have hdst : dstAt ops j = ops[j].dst := by simp [dstAt, ho]
    rw [hdrop] at h
    have hb : Nat.blt j k = true := by rw [blt_eq]; simp; omega
    simp only [drawWp, hb, cond_true, effK_eq, eff_junk] at h
    have next : ∀ e : Eff, drawWp P T ops bs k s0.c (j + 1) (ops.toList.drop (j + 1)) K ((stL s0 ops k E0 fun x => Nat.blt x j).eff ops[j].dst e) →
        ∃ E, E j = e ∧ (∀ i, i < j → E i = E0 i) ∧ (∀ i, j + 1 ≤ i → i < k → StepOk P T ops bs k s0 E i) ∧ finWp P T ops (lateLds ops bs k 0 ops.toList) (ops.toList.drop k) K (stL s0 ops k E fun x => Nat.blt x k) ∧
          (k < ops.size → apart ops bs k (stL s0 ops k E fun x => Nat.blt x k) 0 ops.toList = true) := by
      intro e he
      have hst : (stL s0 ops k E0 fun x => Nat.blt x j).eff ops[j].dst e = stL s0 ops k (fun i => if i = j then e else E0 i) fun x => Nat.blt x (j + 1) := by
        rw [stL_insert (L := fun x => Nat.blt x j) (L' := fun x => Nat.blt x (j + 1)) (E := fun i => if i = j then e else E0 i) (j := j) hu (by omega) (by simp [blt_eq]) (fun i => by
          show Nat.blt i (j + 1) = (i == j || Nat.blt i j)
          rw [blt_eq, blt_eq, Bool.eq_iff_iff]
          simp only [decide_eq_true_iff, Bool.or_eq_true, beq_iff_eq]
          omega)]
        rw [hdst, if_pos rfl]
        congr 1
        exact stL_congr hu fun i _ hi => by
          have : i < j := by simpa [blt_eq] using hi
          rw [if_neg (by omega)]
      rw [hst] at he
      obtain ⟨E, h1, h2, h3⟩ := draw_steps hu hk m (j + 1) _ (by omega) he
      refine ⟨E, by rw [h1 j (by omega)]; simp, fun i hi => by rw [h1 i (by omega), if_neg (by omega)], h2, h3⟩
    rcases guard_parts h with ⟨hg, hq⟩ | ⟨hg, hq⟩
    · obtain ⟨e, he, hpick⟩ := quietK_pick hq
      obtain ⟨E, h1, h2, h3, h4⟩ := next e he
      have hsame : stL s0 ops k E (fun x => Nat.blt x j) = stL s0 ops k E0 fun x => Nat.blt x j := stL_congr hu fun i _ hi => h2 i (by simpa [blt_eq] using hi)
      refine ⟨E, h2, fun i hi1 hi2 => ?_, h4⟩
      by_cases hij : i = j
      · subst hij
        refine ⟨ops[i], ho, .inl ⟨by rw [hsame]; exact hg, ?_⟩⟩
        rw [hsame, h1]
        exact hpick
      · exact h3 i (by omega) hi2
    · have hput : (stL s0 ops k E0 fun x => Nat.blt x j).put ops[j].dst (.tup []) = (stL s0 ops k E0 fun x => Nat.blt x j).eff ops[j].dst (.val (.tup [])) := by
        cases ops[j].dst <;> rfl
      rw [hput] at hq
      obtain ⟨E, h1, h2, h3, h4⟩ := next _ hq
      have hsame : stL s0 ops k E (fun x => Nat.blt x j) = stL s0 ops k E0 fun x => Nat.blt x j := stL_congr hu fun i _ hi => h2 i (by simpa [blt_eq] using hi)
      refine ⟨E, h2, fun i hi1 hi2 => ?_, h4⟩
      by_cases hij : i = j
      · subst hij
        exact ⟨ops[i], ho, .inr ⟨by rw [hsame]; exact hg, h1⟩⟩
      · exact h3 i (by omega) hi2

/-- The i-th operation may come behind the later j-th as well. -/
structure LateOk (ops : Array Oper) (k j i : Nat) : Prop where
  lt : i < k
  ex : ∃ o p d, ops[j]? = some o ∧ ops[i]? = some p ∧ isFin o = true ∧ isPureOp p = true ∧ p.dst = some d ∧ d ∉ o.looksAt ops ∧ d ∉ p.looksAt ops ∧ o.dst ≠ some d ∧ ∀ d', o.dst = some d' → d' ∉ p.looksAt ops
/-- What 'drawOk' says. -/
structure DrawOk (ops : Array Oper) (bs : Array Nat) (k : Nat) : Prop where
  le : k ≤ ops.size
  cert : ∀ j i, j < ops.size → i < ops.size → (bs.getD j 0).testBit i = true → i < j ∧ (i ∈ depsAt ops j ∨ ∃ e ∈ depsAt ops j, e < j ∧ (bs.getD e 0).testBit i = true)
  deps : ∀ j, j < ops.size → ∀ e ∈ depsAt ops j, e < j
  uniq : Uniq ops k
  sees : ∀ j o i d, j < k → ops[j]? = some o → i < k → i ≠ j → dstAt ops i = some d → d ∈ o.looksAt ops → (bs.getD j 0).testBit i = true
  fins : ∀ j i, k ≤ j → j < ops.size → i < j → (bs.getD j 0).testBit i = true ∨ LateOk ops k j i

theorem drawOk_spec {bs : Array Nat} (h : drawOk ops bs k = true) : DrawOk ops bs k := by
  unfold drawOk at h
  simp only [Bool.and_eq_true] at h
  obtain ⟨⟨h1, h2⟩, h3⟩ := h
  have hle : k ≤ ops.size := Nat.le_of_ble_eq_true h2
  have row : ∀ j, j < ops.size → ∃ o, ops[j]? = some o ∧ (depsOf o).all (fun e => Nat.blt e j) = true ∧
      (if j < k then ∀ i, i < k → i ≠ j → ∃ p, ops[i]? = some p ∧ ∀ d, p.dst = some d → o.dst ≠ some d ∧ (d ∈ o.looksAt ops → (bs.getD j 0).testBit i = true)
       else ∀ i, i < j → (bs.getD j 0).testBit i = true ∨ LateOk ops k j i) := by
    intro j hj
    have := List.all_eq_true.1 h3 j (by simpa using hj)
    split at this
    · cases this
    · rename_i o ho
      simp only [Bool.and_eq_true] at this
      obtain ⟨g1, g2⟩ := this
      refine ⟨o, ho, g1, ?_⟩
      rw [blt_eq] at g2
      split
      · rename_i hjk
        simp only [hjk, decide_true, cond_true, List.all_eq_true] at g2
        intro i hi hne
        have := g2 i (by simpa using hi)
        have hne' : (i == j) = false := by simpa using hne
        rw [hne', Bool.false_or] at this
        split at this
        · cases this
        · rename_i p hp
          refine ⟨p, hp, fun d hd => ?_⟩
          rw [hd] at this
          simp only [Bool.and_eq_true, bne_iff_ne, ne_eq, Bool.or_eq_true, Bool.not_eq_true'] at this
          refine ⟨this.1, fun hm => ?_⟩
          rcases this.2 with h | h
          · rw [List.contains_iff_mem.2 hm] at h; cases h
          · exact h
      · rename_i hjk
        simp only [hjk, decide_false, cond_false, List.all_eq_true] at g2
        intro i hi
        have := g2 i (by simpa using hi)
        rw [Bool.or_eq_true] at this
        rcases this with h | h
        · exact .inl h
        · right
          rw [Bool.and_eq_true] at h
          obtain ⟨q1, q2⟩ := h
          split at q2
          · rename_i p hp
            unfold lateOk at q2
            simp only [Bool.and_eq_true] at q2
            obtain ⟨⟨q3, q4⟩, q5⟩ := q2
            split at q5
            · cases q5
            · rename_i d hd
              simp only [Bool.and_eq_true, Bool.not_eq_true', bne_iff_ne, ne_eq] at q5
              obtain ⟨⟨⟨q6, q7⟩, q8⟩, q9⟩ := q5
              refine ⟨by simpa [blt_eq] using q1, o, p, d, ho, hp, q3, q4, hd, fun hm => ?_, fun hm => ?_, q8, fun d' hd' hm => ?_⟩
              · rw [List.contains_iff_mem.2 hm] at q6; cases q6
              · rw [List.contains_iff_mem.2 hm] at q7; cases q7
              · rw [hd'] at q9
                simp only [Bool.not_eq_true'] at q9
                rw [List.contains_iff_mem.2 hm] at q9; cases q9
          · cases q2
  refine ⟨hle, ?_, ?_, ?_, ?_, ?_⟩
  · intro j i hj hi hb
    unfold certOk at h1
    have := List.all_eq_true.1 (List.all_eq_true.1 h1 j (by simpa using hj)) i (by simpa using hi)
    simp only [hb, Bool.not_true, Bool.false_or, Bool.and_eq_true, Bool.or_eq_true] at this
    obtain ⟨g1, g2⟩ := this
    refine ⟨by simpa [blt_eq] using g1, ?_⟩
    rcases g2 with g2 | g2
    · exact .inl (List.contains_iff_mem.1 g2)
    · right
      obtain ⟨e, he, hee⟩ := List.any_eq_true.1 g2
      simp only [Bool.and_eq_true] at hee
      exact ⟨e, he, by simpa [blt_eq] using hee.1, hee.2⟩
  · intro j hj e he
    obtain ⟨o, ho, hd, _⟩ := row j hj
    unfold depsAt at he
    rw [ho] at he
    have := List.all_eq_true.1 hd e he
    simpa [blt_eq] using this
  · intro i j d hi hj hne hdi hdj
    obtain ⟨o, ho, _, hr⟩ := row j (by omega)
    rw [if_pos hj] at hr
    obtain ⟨p, hp, hh⟩ := hr i hi hne
    have h4 : p.dst = some d := by simpa [dstAt, hp] using hdi
    have h5 : o.dst = some d := by simpa [dstAt, ho] using hdj
    exact (hh d h4).1 h5
  · intro j o i d hj ho hi hne hdi hm
    obtain ⟨o', ho', _, hr⟩ := row j (by omega)
    rw [ho] at ho'
    cases ho'
    rw [if_pos hj] at hr
    obtain ⟨p, hp, hh⟩ := hr i hi hne
    have h4 : p.dst = some d := by simpa [dstAt, hp] using hdi
    exact (hh d h4).2 hm
  · intro j i hj hjs hi
    obtain ⟨o, ho, _, hr⟩ := row j hjs
    rw [if_neg (by omega)] at hr
    exact hr i hi

/-- The view of operation j is the same behind whatever has been done, as soon as what must come first has been. -/
theorem view_same {bs : Array Nat} (hok : DrawOk ops bs k) {j : Nat} (hj : j < k) {o : Oper} (ho : ops[j]? = some o) (hLj : L j = false) (hL : ∀ i, i < k → (bs.getD j 0).testBit i = true → L i = true) :
    (∀ x ∈ o.looksAt ops, (stL s0 ops k E fun x => Nat.blt x j).t x = (stL s0 ops k E L).t x) ∧
    ((stL s0 ops k E fun x => Nat.blt x j).hide (unseen ops bs k j) s0.c).m = ((stL s0 ops k E L).hide (unseen ops bs k j) s0.c).m ∧
    (∀ d, o.dst = some d → (stL s0 ops k E fun x => Nat.blt x j).c d = (stL s0 ops k E L).c d) := by
  have hjs : j < ops.size := Nat.lt_of_lt_of_le hj hok.le
  have key : ∀ i, i < k → (bs.getD j 0).testBit i = true → Nat.blt i j = L i := by
    intro i hi hb
    rw [hL i hi hb]
    have := (hok.cert j i hjs (Nat.lt_of_lt_of_le hi hok.le) hb).1
    simpa [blt_eq] using this
  refine ⟨fun x hx => ?_, ?_, fun d hd => ?_⟩
  · have : owner ops k (fun x => Nat.blt x j) x = owner ops k L x := owner_congr fun i hi hdi => by
      by_cases hij : i = j
      · subst hij; rw [hLj]; simp [blt_eq]
      · exact key i hi (hok.sees j o i x hj ho hi hij hdi hx)
    simp only [stL, this]
  · funext id
    simp only [St.hide]
    cases hh : (unseen ops bs k j id.1 && Nat.ble (s0.c id.1) id.2.1) with
    | true => rfl
    | false =>
      simp only [cond_false]
      rw [Bool.and_eq_false_iff] at hh
      rcases hh with hh | hh
      · have : owner ops k (fun x => Nat.blt x j) id.1 = owner ops k L id.1 := owner_congr fun i hi hdi => by
          apply key i hi
          unfold unseen at hh
          have := List.any_eq_false.1 hh i (by simpa using hi)
          unfold dstAt at hdi
          cases hoi : ops[i]? with
          | none => rw [hoi] at hdi; cases hdi
          | some p =>
            rw [hoi] at hdi this
            simp only [Option.bind_some] at hdi
            simpa [hdi] using this
        simp only [stL, this]
      · have hne : id.2.1 ≠ s0.c id.1 := by
          intro e
          have h1 : Nat.ble (s0.c id.1) id.2.1 = true := by rw [Nat.ble_eq]; omega
          rw [h1] at hh
          cases hh
        have all : ∀ L0 : Nat → Bool, (stL s0 ops k E L0).m id = s0.m id := by
          intro L0
          simp only [stL]
          cases owner ops k L0 id.1 with
          | none => rfl
          | some i => simp only; cases E i <;> simp [hne]
        rw [all, all]
  · have hdj : dstAt ops j = some d := by simp [dstAt, ho, hd]
    have no : ∀ L0 : Nat → Bool, L0 j = false → owner ops k L0 d = none := by
      intro L0 h0
      refine owner_none.2 fun i hi hl hx => ?_
      by_cases hij : i = j
      · rw [hij, h0] at hl; cases hl
      · exact hok.uniq i j d hi hj hij hx hdj
    simp only [stL, no _ hLj, no (fun x => Nat.blt x j) (by simp [blt_eq])]

end

theorem putK_mono {c : D} {off : Nat} {d : D} {K K' : D → Prop} (hk : ∀ x, K x → K' x) (h : putK c off d K) : putK c off d K' := by
  unfold putK at h ⊢
  split at h
  · exact ⟨h.1, hk _ h.2⟩
  · exact ⟨h.1, hk _ h.2⟩
  · split at h
    · split at h
      · exact ⟨h.1, hk _ h.2⟩
      · exact ⟨h.1, hk _ h.2⟩
      · exact h.elim
      · exact h.elim
      · exact ⟨h.1, hk _ h.2⟩
    · exact h.elim
theorem storeK_mono {T : Types} {t : TypeId} {c : D} {off : Nat} {d : D} {K K' : D → Prop} (hk : ∀ x, K x → K' x) (h : storeK T t c off d K) : storeK T t c off d K' := by
  unfold storeK at h ⊢
  split at h
  · split at h
    · exact ⟨h.1, putK_mono hk h.2⟩
    · exact ⟨h.1, putK_mono hk h.2⟩
    · exact h.elim
    · exact h.elim
    · rw [asrt_iff] at h ⊢
      exact ⟨h.1, putK_mono hk h.2⟩
    · exact h.elim
  · exact h.elim

/-- Some slots forgotten. -/
def St.forget (s : St) (M : Nat → Bool) : St := { s with t := fun x => bif M x then .junk else s.t x }
theorem forget_ev {s : St} {M : Nat → Bool} {x : Operand} (h : ∀ t, x = .tmp t → M t = false) : (s.forget M).ev x = s.ev x := by
  apply ev_congr
  intro t ht
  simp [St.forget, h t ht]
theorem forget_put {s : St} {M : Nat → Bool} {dst : Option Tmp} {d : D} (hd : ∀ i, dst = some i → M i = false) : (s.forget M).eff dst (.val d) = (s.eff dst (.val d)).forget M := by
  cases dst with
  | none => rfl
  | some i =>
    simp only [St.eff, St.forget]
    congr 1
    funext x
    rw [upd_eq, upd_eq]
    by_cases hx : x = i
    · subst hx; simp [hd x rfl]
    · simp [hx]
theorem opWp_forget {P : Program} {T : Types} {o : Oper} {s : St} {M : Nat → Bool} {K : St → Prop} (hs : isStore o = true) (hM : ∀ t, Operand.tmp t ∈ o.op.operands.toList → M t = false) (hd : ∀ i, o.dst = some i → M i = false)
    (h : opWp P T o s K) : opWp P T o (s.forget M) fun s2 => ∃ s1, K s1 ∧ s2 = s1.forget M ∧ (∀ x, o.dst ≠ some x → s1.t x = s.t x) ∧ ∀ id, (∀ t a x off, o.op = .store t a x → s.ev a ≠ .ptr id off) → s1.m id = s.m id := by
  have eff_t : ∀ (s : St) (d : D) (x : Nat), o.dst ≠ some x → (s.eff o.dst (.val d)).t x = s.t x := by
    intro s d x hx
    cases hq : o.dst with
    | none => rfl
    | some i =>
      simp only [St.eff]
      rw [upd_eq, if_neg]
      rintro rfl
      exact hx hq
  unfold isStore at hs
  split at hs
  · rename_i t a x ho
    have ea : (s.forget M).ev a = s.ev a := forget_ev fun t ht => hM t (by rw [ho]; subst ht; simp [Op.operands])
    have ex : (s.forget M).ev x = s.ev x := forget_ev fun t ht => hM t (by rw [ho]; subst ht; simp [Op.operands])
    simp only [opWp, ho] at h ⊢
    rw [ea, ex]
    split at h
    · rename_i id off hida
      have em : (s.forget M).m id = s.m id := rfl
      rw [em]
      split at h
      · rename_i c hc
        rw [force_eq] at h ⊢
        refine storeK_mono (fun c' hK => ?_) h
        rw [effK_eq] at hK ⊢
        refine ⟨_, hK, ?_, fun y hy => ?_, fun id' hid => ?_⟩
        · exact forget_put (s := s.setm id c') hd
        · rw [eff_t _ _ _ hy]; rfl
        · have hne : id' ≠ id := fun e => hid t a x off (by first | exact ho | rfl) (by rw [e]; exact hida)
          have e1 : ((s.setm id c').eff o.dst (.val (.tup []))).m id' = (s.setm id c').m id' := by cases o.dst <;> rfl
          rw [e1]
          simp only [St.setm, updI_eq, if_neg hne]
      · exact h.elim
    · exact h.elim
  · rename_i x ho
    have ex : (s.forget M).ev x = s.ev x := forget_ev fun t ht => hM t (by rw [ho]; subst ht; simp [Op.operands])
    simp only [opWp, ho, quietK] at h ⊢
    rw [ex]
    rw [force_eq] at h ⊢
    rw [effK_eq] at h ⊢
    exact ⟨_, h, forget_put hd, fun y hy => eff_t _ _ _ hy, fun id _ => by cases o.dst <;> rfl⟩
  · cases hs

theorem opWp_store_mono {P : Program} {T : Types} {o : Oper} {s : St} {K K' : St → Prop} (hs : isStore o = true) (hk : ∀ s, K s → K' s) (h : opWp P T o s K) : opWp P T o s K' := by
  unfold isStore at hs
  split at hs
  · rename_i t a x ho
    simp only [opWp, ho] at h ⊢
    split at h
    · split at h
      · rw [force_eq] at h ⊢
        refine storeK_mono (fun c' hK => ?_) h
        rw [effK_eq] at hK ⊢
        exact hk _ hK
      · exact h.elim
    · exact h.elim
  · rename_i x ho
    simp only [opWp, ho, quietK] at h ⊢
    rw [force_eq] at h ⊢
    rw [effK_eq] at h ⊢
    exact hk _ h
  · cases hs

section
variable {P : Program} {T : Types} {n bs : Nat} {w0 w : World} {l0 : Loc} {s : St} {a : Act} {loc : Loc}
theorem Inv.forget (h : Inv P T n w0 bs l0 s a w loc) (M : Nat → Bool) : Inv P T n w0 bs l0 (s.forget M) a w loc :=
  ⟨h.types, h.low, h.solo, h.size, h.small, h.defers, h.same, fun i => by
    simp only [St.forget]
    cases M i
    · exact h.tmp i
    · simp [Rep], h.mem, h.cnt, h.range, h.live, h.lent, h.inj, h.glob⟩
end

theorem unK_ex {op : UnOp} {x : D} {K : D → Prop} (h : unK op x K) : ∃ d, K d := by
  unfold unK at h
  split at h <;> first | exact ⟨_, h⟩ | exact h.elim
theorem binK_ex {P : Program} {T : Types} {op : BinOp} {t : TypeId} {x y : D} {K : D → Prop} (h : binK P T op t x y K) : ∃ d, K d := by
  unfold binK at h
  split at h
  · split at h
    · exact ⟨_, h.2⟩
    · exact ⟨_, h.2⟩
    · rw [asrt_iff] at h
      obtain ⟨_, h⟩ := h
      split at h
      · exact ⟨_, h⟩
      · exact ⟨_, h⟩
      · exact ⟨_, h⟩
      · exact ⟨_, h.2⟩
      · exact ⟨_, h.2⟩
      · exact ⟨_, h⟩
      · exact ⟨_, h⟩
      · exact ⟨_, h⟩
      · exact ⟨_, h⟩
      · split at h
        · exact ⟨_, h⟩
        · exact h.elim
  · split at h
    · exact ⟨_, h.2⟩
    · split at h
      · exact ⟨_, h⟩
      · exact h.elim
  · split at h
    · obtain ⟨_, _, h⟩ := h; exact ⟨_, h⟩
    · obtain ⟨_, _, h⟩ := h; exact ⟨_, h⟩
    · exact h.elim
  · split at h
    · obtain ⟨_, _, _, _, _, _, h⟩ := h; exact ⟨_, h⟩
    · obtain ⟨_, _, _, _, _, _, h⟩ := h; exact ⟨_, h⟩
    · exact h.elim
  · split at h
    · exact ⟨_, h⟩
    · exact ⟨_, h⟩
    · exact h.elim
  · split at h
    · exact ⟨_, h⟩
    · exact h.elim
  · split at h
    · exact ⟨_, h.2⟩
    · exact h.elim
  · exact h.elim
theorem loadK_ex {T : Types} {t : TypeId} {c : D} {off : Nat} {K : D → Prop} (h : loadK T t c off K) : ∃ d, K d := by
  unfold loadK at h
  split at h
  · split at h
    · unfold subK at h
      split at h
      · exact ⟨_, h.2⟩
      · exact ⟨_, h.2⟩
      · exact h.elim
    · unfold getK at h
      split at h
      · rw [optK_iff] at h; obtain ⟨_, _, h⟩ := h; exact ⟨_, h⟩
      · rw [optK_iff] at h; obtain ⟨x, _, h⟩ := h; rw [force_eq] at h; exact ⟨_, h⟩
      · exact h.elim
  · exact h.elim
theorem apart_zero {ops : Array Oper} {bs : Array Nat} {s : St} {i : Nat} {l : List Oper} : apart ops bs 0 s i l = true := by
  cases l <;> simp [apart, blt_eq]
/-- What 'apart' says. -/
theorem apart1_spec {ops : Array Oper} {bs : Array Nat} {k : Nat} {s : St} {i : Nat} {x : Operand} : ∀ (l : List Oper) (j : Nat), apart1 ops bs k s i x j l = true →
    ∀ q (hq : q < l.length) t a y, l[q].op = .store t a y → (bs.getD (j + q) 0).testBit i = true ∨ (sepD (s.ev x) (s.ev a) = true ∧ still ops k a = true)
  | [], j, h, q, hq, _, _, _, _ => by simp at hq
  | o :: r, j, h, q, hq, t, a, y, ho => by
    have hr : apart1 ops bs k s i x (j + 1) r = true := by
      simp only [apart1] at h
      split at h
      · rw [Bool.and_eq_true] at h; exact h.2
      · exact h
    cases q with
    | zero =>
      simp only [List.getElem_cons_zero] at ho
      simp only [apart1, ho, Bool.and_eq_true, Bool.or_eq_true] at h
      exact h.1
    | succ q =>
      have := apart1_spec r (j + 1) hr q (by simpa using hq) t a y (by simpa using ho)
      have e : j + 1 + q = j + (q + 1) := by omega
      rw [e] at this
      exact this
theorem apart_spec' {ops : Array Oper} {bs : Array Nat} {k : Nat} {s : St} : ∀ (l : List Oper) (i0 : Nat), apart ops bs k s i0 l = true →
    ∀ q (hq : q < l.length) x, i0 + q < k → ptrOf l[q] = some x → apart1 ops bs k s (i0 + q) x k (ops.toList.drop k) = true
  | [], i0, h, q, hq, _, _, _ => by simp at hq
  | o :: r, i0, h, q, hq, x, hk, ho => by
    have hb : Nat.blt i0 k = true := by rw [blt_eq]; simp; omega
    simp only [apart, hb, cond_true] at h
    cases q with
    | zero =>
      simp only [List.getElem_cons_zero] at ho
      simp only [ho, Bool.and_eq_true] at h
      exact h.1
    | succ q =>
      have hr : apart ops bs k s (i0 + 1) r = true := by
        split at h
        · rw [Bool.and_eq_true] at h; exact h.2
        · exact h
      have := apart_spec' r (i0 + 1) hr q (by simpa using hq) x (by omega) (by simpa using ho)
      have e : i0 + 1 + q = i0 + (q + 1) := by omega
      rw [e] at this
      exact this
theorem apart_spec {ops : Array Oper} {bs : Array Nat} {k : Nat} {s : St} (h : apart ops bs k s 0 ops.toList = true) {i j : Nat} {p o : Oper} {t' : TypeId} {x a y : Operand} (hik : i < k) (hkj : k ≤ j) (hi : ops[i]? = some p) (hp : ptrOf p = some x)
    (hj : ops[j]? = some o) (ho : o.op = .store t' a y) : (bs.getD j 0).testBit i = true ∨ (sepD (s.ev x) (s.ev a) = true ∧ ∃ r, a = .tmp r ∧ ∀ q, k ≤ q → dstAt ops q ≠ some r) := by
  obtain ⟨his, hi⟩ := Array.getElem?_eq_some_iff.1 hi
  obtain ⟨hjs, hj⟩ := Array.getElem?_eq_some_iff.1 hj
  have h1 := apart_spec' _ 0 h i (by simpa using his) x (by omega) (by simp [hi, hp])
  have h2 := apart1_spec _ _ h1 (j - k) (by simp; omega) t' a y (by
    have e : k + (j - k) = j := by omega
    simp [e, hj, ho])
  have e1 : k + (j - k) = j := by omega
  have e0 : 0 + i = i := by omega
  rw [e1, e0] at h2
  rcases h2 with h2 | ⟨h2, h3⟩
  · exact .inl h2
  · refine .inr ⟨h2, ?_⟩
    unfold still at h3
    split at h3
    · rename_i r
      refine ⟨r, rfl, fun q hq hd => ?_⟩
      rw [List.all_eq_true] at h3
      unfold dstAt at hd
      cases ho' : ops[q]? with
      | none => rw [ho'] at hd; cases hd
      | some o' =>
        rw [ho'] at hd
        simp only [Option.bind_some] at hd
        have hm : o' ∈ ops.toList.drop k := by
          rw [List.mem_iff_getElem?]
          refine ⟨q - k, ?_⟩
          rw [List.getElem?_drop]
          have e : k + (q - k) = q := by omega
          rw [e]
          simpa using ho'
        have := h3 o' hm
        rw [hd] at this
        simp at this
    · cases h3
theorem sepD_spec {x y : D} {id id' : Id} {off off' : Nat} (h : sepD x y = true) (hx : x = .ptr id off) (hy : y = .ptr id' off') : id ≠ id' := by
  subst hx hy
  rintro rfl
  simp [sepD] at h
theorem sliceK_congr {T : Types} {s s' : St} {t : TypeId} {lo hi mx : Option Operand} {d : D} {K : D → Prop} (hlo : optI s lo = optI s' lo) (hhi : optI s hi = optI s' hi)
    (hm : ∀ id off c, d = .ptr id off → s.m id = some c → s'.m id = some c) (h : sliceK T s t d lo hi mx K) : sliceK T s' t d lo hi mx K := by
  unfold sliceK at h ⊢
  rw [← hlo, ← hhi]
  generalize T t = tt at h ⊢
  generalize optI s lo = ol at h ⊢
  generalize optI s hi = oh at h ⊢
  split at h
  · exact h
  · exact h
  · exact h
  · split at h
    · rename_i i c hi hc
      rw [hi, hm _ _ _ rfl hc]; exact h
    · exact h.elim
  · exact h
  · exact h.elim
theorem sliceK_ex {T : Types} {s : St} {t : TypeId} {lo hi mx : Option Operand} {d : D} {K : D → Prop} (h : sliceK T s t d lo hi mx K) : ∃ d, K d := by
  unfold sliceK at h
  split at h
  · exact ⟨_, h.2⟩
  · split at h
    · rw [asrt_iff] at h; exact ⟨_, h.2.2⟩
    · exact h.elim
  · split at h
    · rw [asrt_iff] at h
      obtain ⟨_, _, h⟩ := h
      unfold subK at h
      split at h
      · exact ⟨_, h.2⟩
      · exact ⟨_, h.2⟩
      · exact h.elim
    · exact h.elim
  · split at h
    · exact ⟨_, h.2⟩
    · exact h.elim
  · split at h
    · obtain ⟨_, h⟩ := h
      unfold subK at h
      split at h
      · exact ⟨_, h.2⟩
      · exact ⟨_, h.2⟩
      · exact h.elim
    · exact h.elim
  · exact h.elim
theorem fieldAddrK_ex {T : Types} {t : TypeId} {x : D} {f : Nat} {K : D → Prop} (h : fieldAddrK T t x f K) : ∃ d, K d := by
  unfold fieldAddrK at h
  split at h
  · split at h
    · split at h
      · split at h
        · exact h.elim
        · split at h <;> first | exact ⟨_, h⟩ | exact h.elim
      · exact h.elim
    · exact h.elim
  · exact h.elim
theorem indexAddrK_ex {T : Types} {t : TypeId} {x i : D} {K : D → Prop} (h : indexAddrK T t x i K) : ∃ d, K d := by
  unfold indexAddrK at h
  split at h
  · split at h
    · split at h
      · obtain ⟨_, h⟩ := h
        split at h <;> first | exact ⟨_, h⟩ | exact h.elim
      · exact h.elim
    · split at h
      · split at h
        · rw [asrt_iff] at h; exact ⟨_, h.2.2⟩
        · rw [asrt_iff] at h; exact ⟨_, h.2.2⟩
        · exact h.elim
      · exact h.elim
    · exact h.elim
  · exact h.elim
theorem keepK_spec {s s1 : St} {p : Prop} : ∀ {l : List Operand}, keepK s s1 l p ↔ (∀ x ∈ l, ∀ id off, s.ev x = .ptr id off → s1.m id = s.m id) ∧ p
  | [] => by simp [keepK]
  | x :: r => by
    simp only [keepK, keepK_spec (l := r), List.mem_cons, forall_eq_or_imp, and_assoc]
    refine and_congr ?_ Iff.rfl
    constructor
    · intro h id off hx; rw [hx] at h; exact h
    · intro h
      split
      · exact h _ _ (by assumption)
      · trivial
theorem lateLds_mem {ops : Array Oper} {bs : Array Nat} {k : Nat} : ∀ (l : List Oper) (i0 q : Nat) (x : Operand) (j : Nat) (o : Oper), (hq : q < l.length) → i0 + q < k → ptrOf l[q] = some x → k ≤ j → ops[j]? = some o → isNew o = true →
    (bs.getD j 0).testBit (i0 + q) = false → x ∈ lateLds ops bs k i0 l
  | [], i0, q, x, j, o, hq, _, _, _, _, _, _ => by simp at hq
  | p :: r, i0, q, x, j, o, hq, hik, hp, hkj, ho, hm, hb => by
    have hb0 : Nat.blt i0 k = true := by rw [blt_eq]; simp; omega
    simp only [lateLds, hb0, cond_true]
    cases q with
    | zero =>
      simp only [List.getElem_cons_zero] at hp
      rw [hp]
      dsimp only
      have hjs : j < ops.size := (Array.getElem?_eq_some_iff.1 ho).1
      refine (show ∀ (B : Bool) (L : List Operand), B = true → x ∈ (bif B then x :: L else L) from fun B L hB => by rw [hB]; simp) _ _ ?_
      rw [List.any_eq_true]
      refine ⟨j, by simpa using hjs, ?_⟩
      have hkj' : Nat.ble k j = true := by rw [Nat.ble_eq]; exact hkj
      simp only [Nat.add_zero] at hb
      rw [Array.getD_eq_getD_getElem?] at hb
      simp [hkj', ho, hm, hb]
    | succ q =>
      have ih := lateLds_mem r (i0 + 1) q x j o (by simpa using hq) (by omega) (by simpa using hp) hkj ho hm (by rw [show i0 + 1 + q = i0 + (q + 1) by omega]; exact hb)
      cases ptrOf p with
      | none => exact ih
      | some y => exact (show ∀ (B : Bool), x ∈ (bif B then y :: lateLds ops bs k (i0 + 1) r else lateLds ops bs k (i0 + 1) r) from fun B => by cases B; exact ih; exact List.mem_cons_of_mem _ ih) _
theorem pure_congr {P : Program} {T : Types} (hT : TOk P T) {o : Oper} {s s' : St} {K : Eff → Prop} (hp : isPureOp o = true) (hev : ∀ x ∈ o.op.operands.toList, s.ev x = s'.ev x) (hm : ∀ x id off c, ptrOf o = some x → s.ev x = .ptr id off → s.m id = some c → s'.m id = some c) (h : quietK P T o s K) : quietK P T o s' K := by
  unfold isPureOp at hp
  split at hp
  · rename_i x ho
    have := hev x (by rw [ho]; simp [Op.operands])
    simp only [quietK, ho] at h ⊢
    rw [← this]; exact h
  · rename_i x i ho
    have := hev x (by rw [ho]; simp [Op.operands])
    simp only [quietK, ho] at h ⊢
    rw [← this]; exact h
  · rename_i op t x ho
    have := hev x (by rw [ho]; simp [Op.operands])
    simp only [quietK, ho] at h ⊢
    rw [← this]; exact h
  · rename_i op t x y t' ho
    have h1 := hev x (by rw [ho]; simp [Op.operands])
    have h2 := hev y (by rw [ho]; simp [Op.operands])
    simp only [quietK, ho] at h ⊢
    rw [← h1, ← h2]; exact h
  · rename_i t x ho
    have h1 := hev x (by rw [ho]; simp [Op.operands])
    simp only [quietK, ho] at h ⊢
    rw [← h1]
    split at h
    · rename_i id off hx
      split at h
      · rename_i c hc
        simp only [hm x id off c (by unfold ptrOf; rw [ho]) hx hc]
        exact h
      · exact h.elim
    · exact h
    · exact h.elim
  · rename_i t x f ho
    have h1 := hev x (by rw [ho]; simp [Op.operands])
    simp only [quietK, ho] at h ⊢
    rw [← h1]; exact h
  · rename_i t x i ho
    have h1 := hev x (by rw [ho]; simp [Op.operands])
    have h2 := hev i (by rw [ho]; simp [Op.operands])
    simp only [quietK, ho] at h ⊢
    rw [← h1, ← h2]; exact h
  · rename_i x ho
    have h1 := hev x (by rw [ho]; simp [Op.operands])
    simp only [quietK, ho] at h ⊢
    rw [← h1]; exact h
  · rename_i t x lo hi mx ho
    have h1 := hev x (by rw [ho]; simp [Op.operands])
    simp only [quietK, ho] at h ⊢
    rw [← h1]
    exact sliceK_congr (optI_congr fun z hz => hev z (by rw [ho]; simp [Op.operands, hz])) (optI_congr fun z hz => hev z (by rw [ho]; simp [Op.operands, hz]))
      (fun id off c hx hc => hm x id off c (by unfold ptrOf; rw [ho]) hx hc) h
  · rename_i a b x ho
    have h1 := hev x (by rw [ho]; simp [Op.operands])
    simp only [quietK, ho] at h ⊢
    rw [← h1]
    cases hTa : T a with
    | none => unfold convK at h; rw [hTa] at h; simp only at h
    | some i =>
      obtain ⟨k, hk⟩ := (hT a i hTa).num hp
      obtain ⟨u, z1, z2, z3⟩ := i
      simp only at hk
      subst hk
      unfold convK at h ⊢
      simp only [hTa] at h ⊢
      split at h <;> first | exact h.elim | (rename_i hh; cases hh; done) | (simp_all; done) | exact h
  · cases hp
theorem pure_val {P : Program} {T : Types} {o : Oper} {s : St} {e : Eff} (hp : isPureOp o = true) (h : quietK P T o s fun x => x = e) : ∃ d, e = .val d := by
  unfold isPureOp at hp
  split at hp
  · rename_i x ho
    simp only [quietK, ho] at h
    rw [force_eq] at h
    exact ⟨_, h.symm⟩
  · rename_i x i ho
    simp only [quietK, ho] at h
    split at h
    · split at h
      · rw [force_eq] at h; exact ⟨_, h.symm⟩
      · exact h.elim
    · exact h.elim
  · rename_i op t x ho
    simp only [quietK, ho] at h
    obtain ⟨d, hd⟩ := unK_ex h
    exact ⟨d, hd.symm⟩
  · rename_i op t x y t' ho
    simp only [quietK, ho] at h
    obtain ⟨d, hd⟩ := binK_ex h
    exact ⟨d, hd.symm⟩
  · rename_i t x ho
    simp only [quietK, ho] at h
    split at h
    · split at h
      · obtain ⟨d, hd⟩ := loadK_ex h
        exact ⟨d, hd.symm⟩
      · exact h.elim
    · obtain ⟨d, hd⟩ := loadK_ex h
      exact ⟨d, hd.symm⟩
    · exact h.elim
  · rename_i t x f ho
    simp only [quietK, ho] at h
    obtain ⟨d, hd⟩ := fieldAddrK_ex h
    exact ⟨d, hd.symm⟩
  · rename_i t x i ho
    simp only [quietK, ho] at h
    obtain ⟨d, hd⟩ := indexAddrK_ex h
    exact ⟨d, hd.symm⟩
  · rename_i x ho
    simp only [quietK, ho] at h
    split at h <;> first | exact ⟨_, h.symm⟩ | exact h.elim
  · rename_i t x lo hi mx ho
    simp only [quietK, ho] at h
    obtain ⟨d, hd⟩ := sliceK_ex h
    exact ⟨d, hd.symm⟩
  · rename_i a b x ho
    simp only [quietK, ho] at h
    unfold convK at h
    split at h
    · exact ⟨_, h.symm⟩
    · exact ⟨_, h.symm⟩
    · exact ⟨_, h.symm⟩
    · split at h
      · exact ⟨_, h.symm⟩
      · exact h.elim
    · split at h
      · obtain ⟨_, _, h⟩ := h; exact ⟨_, h.symm⟩
      · exact h.elim
    · exact h.elim
  · cases hp
/-- A contract's use may be told with more behind it. -/
theorem convK_mono {T : Types} {s : St} {a b : TypeId} {x : D} {K K' : D → Prop} (hk : ∀ d, K d → K' d) (h : convK T s a b x K) : convK T s a b x K' := by
  unfold convK at h ⊢
  split at h
  · exact hk _ h
  · exact hk _ h
  · exact hk _ h
  · split at h
    · exact hk _ h
    · exact h.elim
  · split at h
    · obtain ⟨b, h1, h2⟩ := h; exact ⟨b, h1, hk _ h2⟩
    · exact h.elim
  · exact h.elim
theorem callMK_mono {own : Bool} {P : Program} {s : St} {f : D} {args : List D} {dst : Option Tmp} {K K' : St → Prop} (hk : ∀ s, K s → K' s) (h : callMK own P s f args dst K) : callMK own P s f args dst K' := by
  unfold callMK at h ⊢
  split at h
  · obtain ⟨lend, dargs, ms, res, ms', news, res2, ms2, news2, h1, h2, h3, h4, h5, h6, h7, h8, h9, h10⟩ := h
    exact ⟨lend, dargs, ms, res, ms', news, res2, ms2, news2, h1, h2, h3, h4, h5, h6, h7, h8, h9, hk _ h10⟩
  · obtain ⟨lend, dargs, ms, res, ms', ms2, h1, h2, h3, h4, h5, h6, h7, h8⟩ := h
    exact ⟨lend, dargs, ms, res, ms', ms2, h1, h2, h3, h4, h5, h6, h7, hk _ h8⟩
  · exact h.elim
theorem appendK_mono {T : Types} {s : St} {t : TypeId} {x y : D} {dst : Option Tmp} {K K' : St → Prop} (hk : ∀ s, K s → K' s) (h : appendK T s t x y dst K) : appendK T s t x y dst K' := by
  unfold appendK at h ⊢
  split at h
  · split at h
    · split at h
      · split at h
        · rw [asrt_iff] at h ⊢; exact ⟨h.1, h.2.1, hk _ h.2.2⟩
        · split at h
          · split at h
            · rw [asrt_iff] at h ⊢; exact ⟨h.1, h.2.1, hk _ h.2.2⟩
            · exact h.elim
          · exact h.elim
        · exact h.elim
      · exact h.elim
    · exact h.elim
  · exact h.elim
theorem upd_forget {t : Nat → D} {M : Nat → Bool} {i : Nat} {d : D} (hM : M i = false) : upd (fun x => bif M x then D.junk else t x) i d = fun x => bif M x then D.junk else upd t i d x := by
  funext x
  rw [upd_eq, upd_eq]
  by_cases hx : x = i
  · subst hx; simp [hM]
  · simp [hx]
theorem build_to {P : Program} {T : Types} {o : Oper} {s : St} {K : Eff → Prop} {e : Eff} {t : TypeId} {parts : Array (Nat × Operand)} (ho : o.op = .build t parts) (h : quietK P T o s fun e' => e' = e) (hk : K e) : quietK P T o s K := by
  revert h
  simp only [quietK, ho]
  split
  · split
    · split
      · split
        · intro h; rw [← h] at hk; exact hk
        · exact fun h => h
      · exact fun h => h
    · exact fun h => h
  · split
    · split
      · intro h; rw [← h] at hk; exact hk
      · exact fun h => h
    · exact fun h => h
  · exact fun h => h
theorem build_val {P : Program} {T : Types} {o : Oper} {s : St} {e : Eff} {t : TypeId} {parts : Array (Nat × Operand)} (ho : o.op = .build t parts) (h : quietK P T o s fun e' => e' = e) : ∃ d, e = .val d := by
  simp only [quietK, ho] at h
  split at h
  · split at h
    · split at h
      · split at h
        · exact ⟨_, h.symm⟩
        · exact h.elim
      · exact h.elim
    · exact h.elim
  · split at h
    · split at h
      · exact ⟨_, h.symm⟩
      · exact h.elim
    · exact h.elim
  · exact h.elim
theorem buildSlice_to {P : Program} {T : Types} {o : Oper} {s : St} {K : Eff → Prop} {e : Eff} {t : TypeId} {len : Nat} {parts : Array (Nat × Operand)} (ho : o.op = .buildSlice t len parts) (h : quietK P T o s fun e' => e' = e) (hk : K e) : quietK P T o s K := by
  revert h
  simp only [quietK, ho]
  split
  · split
    · split
      · split
        · rw [asrt_iff, asrt_iff]
          rintro ⟨h4, h5⟩
          refine ⟨h4, ?_⟩
          unfold newK at h5 ⊢
          cases hd : o.dst with
          | none => rw [hd] at h5; exact h5.elim
          | some i => rw [hd] at h5; simp only at h5 ⊢; rw [← h5] at hk; exact hk
        · exact fun h => h
      · exact fun h => h
    · exact fun h => h
  · exact fun h => h
theorem buildSlice_new {P : Program} {T : Types} {o : Oper} {s : St} {e : Eff} {t : TypeId} {len : Nat} {parts : Array (Nat × Operand)} (ho : o.op = .buildSlice t len parts) (h : quietK P T o s fun e' => e' = e) : ∃ d f, e = .new d f := by
  simp only [quietK, ho] at h
  split at h
  · split at h
    · split at h
      · split at h
        · rw [asrt_iff] at h
          have h5 := h.2
          unfold newK at h5
          cases hd : o.dst with
          | none => rw [hd] at h5; exact h5.elim
          | some i => rw [hd] at h5; exact ⟨_, _, h5.symm⟩
        · exact h.elim
      · exact h.elim
    · exact h.elim
  · exact h.elim
theorem fin_forget {P : Program} {T : Types} {o : Oper} {s : St} {M : Nat → Bool} {K : St → Prop} (hs : isFin o = true) (hM : ∀ t, Operand.tmp t ∈ o.op.operands.toList → M t = false) (hd : ∀ i, o.dst = some i → M i = false)
    (h : opWp P T o s K) : opWp P T o (s.forget M) fun s2 => ∃ s1, K s1 ∧ s2 = s1.forget M ∧ (∀ x, o.dst ≠ some x → s1.t x = s.t x) ∧ ∀ id, isNew o = false → (∀ t a x off, o.op = .store t a x → s.ev a ≠ .ptr id off) → s1.m id = s.m id := by
  have other : ∀ (i x : Nat) (d : D), o.dst = some i → o.dst ≠ some x → upd s.t i d x = s.t x := fun i x d hi hx => by
    rw [upd_eq, if_neg]
    rintro rfl
    exact hx hi
  unfold isFin at hs
  rw [Bool.or_eq_true, Bool.or_eq_true] at hs
  rcases hs with hs | hs | hs
  · refine opWp_store_mono hs (fun s2 h => ?_) (opWp_forget hs hM hd h)
    obtain ⟨s1, g1, g2, g3, g4⟩ := h
    exact ⟨s1, g1, g2, g3, fun id _ => g4 id⟩
  · unfold isMid at hs
    split at hs
    · rename_i g args ts ho
      rw [Bool.and_eq_true, Bool.and_eq_true, Bool.not_eq_true'] at hs
      obtain ⟨⟨hmut, hboth⟩, hsome⟩ := hs
      obtain ⟨i, hi⟩ := Option.isSome_iff_exists.1 hsome
      have hargs : args.toList.map (s.forget M).ev = args.toList.map s.ev := map_ev_congr fun x hx => forget_ev fun t ht => hM t (by rw [ho]; subst ht; simp [Op.operands, Call.operands]; simpa using hx)
      simp only [opWp, ho, hmut, hboth, cond_true, cond_false] at h ⊢
      rw [hargs]
      rw [hi] at h ⊢
      simp only [callMK] at h ⊢
      obtain ⟨lend, dargs, ms, res, ms', news, res2, ms2, news2, h1, h2, h3, h4, h5, h6, h7, h8, h9, h10⟩ := h
      refine ⟨lend, dargs, ms, res, ms', news, res2, ms2, news2, h1, h2, h3, h4, h5, h6, h7, h8, h9, _, h10, ?_, fun x hx => other i x _ hi (by rw [hi]; exact hx), fun id hmid => ?_⟩
      · simp only [St.callM, St.forget, upd_forget (hd i hi)]
      · exfalso
        unfold isNew isMid at hmid
        rw [ho] at hmid
        simp [hmut, hboth, hi] at hmid
    · rename_i args ts ho
      obtain ⟨i, hi⟩ := Option.isSome_iff_exists.1 hs
      have hev : ∀ x ∈ args.toList, (s.forget M).ev x = s.ev x := fun x hx => forget_ev fun t ht => hM t (by rw [ho]; subst ht; simp [Op.operands, Call.operands]; simpa using hx)
      simp only [opWp, ho] at h ⊢
      split at h
      · rename_i x y t t' hxy htt
        have hx := hev x (by rw [hxy]; simp)
        have hy := hev y (by rw [hxy]; simp)
        rw [hx, hy]
        have hsrc : ∀ sz d, srcOf (s.forget M) sz d = srcOf s sz d := fun sz d => by
          unfold srcOf
          simp only [contOf_congr (s := s.forget M) (s' := s) rfl]
        have hK : ∀ (j : Nat) (s1 : St) (d : D) (f : Nat → Option D), j = i → s1.t = s.t → K (s1.new j d f) → ∃ s3, K s3 ∧ (s1.forget M).new j d f = s3.forget M ∧ (∀ x, o.dst ≠ some x → s3.t x = s.t x) ∧
            ∀ id, isNew o = false → (∀ t a x off, o.op = .store t a x → s.ev a ≠ .ptr id off) → s3.m id = s.m id := fun j s1 d f hj h1 hk => by
          subst hj
          refine ⟨_, hk, ?_, fun x hx => ?_, fun id hmid => ?_⟩
          · simp only [St.new, St.forget, upd_forget (hd _ hi)]
          · simp only [St.new, h1]; exact other _ x _ hi hx
          · exfalso
            unfold isNew isMid at hmid
            rw [ho] at hmid
            simp [hi] at hmid
        rw [ho] at hK
        split at h
        · exact h.elim
        · unfold appendK at h ⊢
          simp only [hsrc]
          rw [hi] at h ⊢
          split at h
          · rename_i htt1
            split at h
            · split at h
              · split at h
                · rw [asrt_iff] at h ⊢
                  refine ⟨h.1, h.2.1, ?_⟩
                  have := hK _ s _ _ (by simp_all) rfl h.2.2
                  simp [hi] at this ⊢; exact this
                · split at h
                  · rename_i cx hcx
                    have em : ∀ id, (s.forget M).m id = s.m id := fun _ => rfl
                    simp only [em, hcx]
                    split at h
                    · rw [asrt_iff] at h ⊢
                      refine ⟨h.1, h.2.1, ?_⟩
                      have := hK _ (s.kill _) _ _ (by simp_all) rfl h.2.2
                      simp [hi] at this ⊢; exact this
                    · exact h.elim
                  · exact h.elim
                · exact h.elim
              · exact h.elim
            · exact h.elim
          · exact h.elim
        · exact h.elim
      · exact h.elim
    · cases hs
  · split at hs
    · rename_i x ho
      have ex : (s.forget M).ev x = s.ev x := forget_ev fun t ht => hM t (by rw [ho]; subst ht; simp [Op.operands])
      simp only [opWp, ho, quietK] at h ⊢
      rw [ex]
      rw [force_eq] at h ⊢
      rw [effK_eq] at h ⊢
      refine ⟨_, h, forget_put hd, fun y hy => ?_, fun id _ _ => by cases o.dst <;> rfl⟩
      cases hq : o.dst with
      | none => rfl
      | some i => exact other i y _ hq hy
    · rename_i a b x ho
      have ex : (s.forget M).ev x = s.ev x := forget_ev fun t ht => hM t (by rw [ho]; subst ht; simp [Op.operands])
      simp only [opWp, ho, quietK] at h ⊢
      rw [ex]
      have h2 : convK T (s.forget M) a b (s.ev x) fun d => effK s o.dst (.val d) K := by
        unfold convK at h ⊢
        simp only [contOf_congr (s := s.forget M) (s' := s) rfl]
        exact h
      refine convK_mono (fun d h => ?_) h2
      rw [effK_eq] at h ⊢
      refine ⟨_, h, forget_put hd, fun y hy => ?_, fun id _ _ => by cases o.dst <;> rfl⟩
      cases hq : o.dst with
      | none => rfl
      | some i => exact other i y _ hq hy
    · rename_i t parts ho
      have hq : quietK P T o s fun e => effK s o.dst e K := by simpa only [opWp, ho] using h
      have hg : quietK P T o (s.forget M) fun e => effK s o.dst e K := quietK_congr (fun x hx => (forget_ev fun t ht => hM t (by subst ht; exact hx)).symm) rfl (fun _ _ => rfl) hq
      obtain ⟨e, h1, h2⟩ := quietK_pick hg
      obtain ⟨d, rfl⟩ := build_val ho h2
      have : quietK P T o (s.forget M) fun e => effK (s.forget M) o.dst e fun s2 => ∃ s1, K s1 ∧ s2 = s1.forget M ∧ (∀ x, o.dst ≠ some x → s1.t x = s.t x) ∧ ∀ id, isNew o = false → (∀ t a x off, o.op = .store t a x → s.ev a ≠ .ptr id off) → s1.m id = s.m id := by
        refine build_to ho h2 ?_
        rw [effK_eq] at h1 ⊢
        refine ⟨_, h1, forget_put hd, fun y hy => ?_, fun id _ _ => by cases o.dst <;> rfl⟩
        cases hq : o.dst with
        | none => rfl
        | some i => exact other i y _ hq hy
      simpa only [opWp, ho] using this
    · rename_i t len parts ho
      obtain ⟨i, hi⟩ := Option.isSome_iff_exists.1 hs
      have hq : quietK P T o s fun e => effK s o.dst e K := by simpa only [opWp, ho] using h
      have hg : quietK P T o (s.forget M) fun e => effK s o.dst e K := quietK_congr (fun x hx => (forget_ev fun t ht => hM t (by subst ht; exact hx)).symm) rfl (fun _ _ => rfl) hq
      obtain ⟨e, h1, h2⟩ := quietK_pick hg
      obtain ⟨d, f, rfl⟩ := buildSlice_new ho h2
      have : quietK P T o (s.forget M) fun e => effK (s.forget M) o.dst e fun s2 => ∃ s1, K s1 ∧ s2 = s1.forget M ∧ (∀ x, o.dst ≠ some x → s1.t x = s.t x) ∧ ∀ id, isNew o = false → (∀ t a x off, o.op = .store t a x → s.ev a ≠ .ptr id off) → s1.m id = s.m id := by
        refine buildSlice_to ho h2 ?_
        rw [effK_eq, hi] at h1 ⊢
        refine ⟨_, h1, ?_, fun x hx => ?_, fun id hmid => ?_⟩
        · simp only [St.eff, St.forget, upd_forget (hd i hi)]
        · simp only [St.eff]; exact other i x _ hi (by rw [hi]; exact hx)
        · exfalso
          unfold isNew at hmid
          rw [ho] at hmid
          simp [hi] at hmid
      simpa only [opWp, ho] using this
    · rename_i g args ts ho
      rw [Bool.and_eq_true, Bool.and_eq_true, Bool.not_eq_true', Bool.not_eq_true'] at hs
      obtain ⟨⟨hmut, hboth⟩, hsome⟩ := hs
      obtain ⟨i, hi⟩ := Option.isSome_iff_exists.1 hsome
      have hargs : args.toList.map (s.forget M).ev = args.toList.map s.ev := map_ev_congr fun x hx => forget_ev fun t ht => hM t (by rw [ho]; subst ht; simp [Op.operands, Call.operands]; simpa using hx)
      simp only [opWp, ho, hmut, hboth, cond_false, callK] at h ⊢
      rw [hargs]
      rw [hi] at h ⊢
      obtain ⟨dargs, res, h1, h2, h3⟩ := h
      refine ⟨dargs, res, h1, h2, ?_⟩
      simp only [show (s.forget M).c i = s.c i from rfl]
      simp only [effK_eq] at h3 ⊢
      obtain ⟨e, he⟩ : ∃ e, Eff.ofRes i (s.c i) res = e := ⟨_, rfl⟩
      rw [he] at h3 ⊢
      refine ⟨_, h3, ?_, fun x hx => ?_, fun id hmid => ?_⟩
      · cases e <;> simp only [St.eff, St.put, St.set, St.forget, upd_forget (hd i hi)]
      · cases e <;> simp only [St.eff, St.put, St.set] <;> exact other i x _ hi (by rw [hi]; exact hx)
      · exfalso
        unfold isNew isMid at hmid
        rw [ho] at hmid
        simp [hmut, hboth, hi] at hmid
    · cases hs
theorem fin_mono {P : Program} {T : Types} {o : Oper} {s : St} {K K' : St → Prop} (hs : isFin o = true) (hk : ∀ s, K s → K' s) (h : opWp P T o s K) : opWp P T o s K' := by
  unfold isFin at hs
  rw [Bool.or_eq_true, Bool.or_eq_true] at hs
  rcases hs with hs | hs | hs
  · exact opWp_store_mono hs hk h
  · unfold isMid at hs
    split at hs
    · rename_i g args ts ho
      rw [Bool.and_eq_true, Bool.and_eq_true, Bool.not_eq_true'] at hs
      simp only [opWp, ho, hs.1.1, hs.1.2, cond_true, cond_false] at h ⊢
      exact callMK_mono hk h
    · rename_i args ts ho
      simp only [opWp, ho] at h ⊢
      split at h
      · split at h
        · exact h.elim
        · exact appendK_mono hk h
        · exact h.elim
      · exact h.elim
    · cases hs
  · split at hs
    · rename_i x ho
      simp only [opWp, ho, quietK] at h ⊢
      rw [force_eq] at h ⊢
      rw [effK_eq] at h ⊢
      exact hk _ h
    · rename_i a b x ho
      simp only [opWp, ho, quietK] at h ⊢
      refine convK_mono (fun d h => ?_) h
      rw [effK_eq] at h ⊢
      exact hk _ h
    · rename_i t parts ho
      have hq : quietK P T o s fun e => effK s o.dst e K := by simpa only [opWp, ho] using h
      obtain ⟨e, h1, h2⟩ := quietK_pick hq
      have := build_to (K := fun e => effK s o.dst e K') ho h2 (by rw [effK_eq] at h1 ⊢; exact hk _ h1)
      simpa only [opWp, ho] using this
    · rename_i t len parts ho
      have hq : quietK P T o s fun e => effK s o.dst e K := by simpa only [opWp, ho] using h
      obtain ⟨e, h1, h2⟩ := quietK_pick hq
      have := buildSlice_to (K := fun e => effK s o.dst e K') ho h2 (by rw [effK_eq] at h1 ⊢; exact hk _ h1)
      simpa only [opWp, ho] using this
    · rename_i g args ts ho
      rw [Bool.and_eq_true, Bool.and_eq_true, Bool.not_eq_true', Bool.not_eq_true'] at hs
      simp only [opWp, ho, hs.1.1, hs.1.2, cond_false, callK] at h ⊢
      obtain ⟨dargs, res, h1, h2, h3⟩ := h
      refine ⟨dargs, res, h1, h2, ?_⟩
      cases hd : o.dst with
      | none => rw [hd] at h3; simp only [effK_eq] at h3 ⊢; exact hk _ h3
      | some i => rw [hd] at h3; simp only [effK_eq] at h3 ⊢; exact hk _ h3
    · cases hs
end Go.V
