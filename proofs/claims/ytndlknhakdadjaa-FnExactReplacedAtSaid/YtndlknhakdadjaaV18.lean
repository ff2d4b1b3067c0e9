/- A nil slice that is handed back, told as an empty one. -/
import Derived.Test.YtndlknhakdadjaaV17
set_option linter.unusedVariables false
set_option linter.unusedSimpArgs false
namespace Go.V
def isNilV : D → Bool
  | .v (.slice none 0 0) => true
  | _ => false
def isNilR : D → Bool
  | .row true _ (.v (.agg ⟨[]⟩)) 0 => true
  | _ => false
theorem isNilV_eq {d : D} (h : isNilV d = true) : d = .v (.slice none 0 0) := by
  unfold isNilV at h
  split at h
  · rfl
  · cases h
theorem isNilR_eq {d : D} (h : isNilR d = true) : ∃ sz, d = .row true sz (.v (.agg ⟨[]⟩)) 0 := by
  unfold isNilR at h
  split at h
  · exact ⟨_, rfl⟩
  · cases h
def NilL : List D → List D → Prop
  | [], [] => True
  | e :: es, d :: ds => (e = d ∨ (isNilV d = true ∧ isNilR e = true)) ∧ NilL es ds
  | _, _ => False
theorem NilL.get : ∀ {es ds : List D}, NilL es ds → ∀ (j : Nat), (es[j]? = none ∧ ds[j]? = none) ∨ (∃ e d, es[j]? = some e ∧ ds[j]? = some d ∧ (e = d ∨ (isNilV d = true ∧ isNilR e = true)))
  | [], [], _, j => by simp
  | e :: es, d :: ds, h, 0 => .inr ⟨e, d, rfl, rfl, h.1⟩
  | e :: es, d :: ds, h, j + 1 => by simpa using NilL.get h.2 j
  | [], _ :: _, h, _ => h.elim
  | _ :: _, [], h, _ => h.elim
theorem NilL.length : ∀ {es ds : List D}, NilL es ds → es.length = ds.length
  | [], [], _ => rfl
  | e :: es, d :: ds, h => by simp [NilL.length h.2]
  | [], _ :: _, h => h.elim
  | _ :: _, [], h => h.elim
theorem NilL.clean : ∀ {es ds : List D}, NilL es ds → cleanL ds = true → cleanL es = true
  | [], [], _, _ => rfl
  | e :: es, d :: ds, h, hc => by
    simp only [cleanL, Bool.and_eq_true] at hc ⊢
    refine ⟨?_, NilL.clean h.2 hc.2⟩
    rcases h.1 with rfl | ⟨_, h2⟩
    · exact hc.1
    · obtain ⟨sz, rfl⟩ := isNilR_eq h2; rfl
  | [], _ :: _, h, _ => h.elim
  | _ :: _, [], h, _ => h.elim
/-- No part is a tuple. -/
def flatL : List D → Bool
  | [] => true
  | .tup _ :: _ => false
  | _ :: r => flatL r
theorem tops_one : ∀ {ds : List D}, flatL ds = true → tops (one' ds) = ds
  | [], _ => rfl
  | [d], h => by cases d <;> first | rfl | (simp [flatL] at h)
  | d :: e :: r, _ => rfl
theorem NilL.flat : ∀ {es ds : List D}, NilL es ds → flatL ds = true → flatL es = true
  | [], [], _, _ => rfl
  | e :: es, d :: ds, h, hf => by
    rcases h.1 with rfl | ⟨h1, h2⟩
    · have hh := NilL.flat h.2
      cases e <;> first | exact hh hf | exact absurd hf (by simp [flatL])
    · obtain ⟨sz, rfl⟩ := isNilR_eq h2
      rw [isNilV_eq h1] at hf
      simp only [flatL] at hf ⊢
      exact NilL.flat h.2 hf
  | [], _ :: _, h, _ => h.elim
  | _ :: _, [], h, _ => h.elim

section
variable {w : World} {B : Nat}
/-- Where an empty slice lies: nowhere. -/
def nilLoc (es ds : List D) (loc : Loc) : Loc := fun id =>
  match es[id.2.2]?, ds[id.2.2]? with
  | some e, some d => bif id.1 == 0 && id.2.1 == 0 && isNilV d && isNilR e then some (none, 0) else loc id
  | _, _ => loc id
theorem nilLoc_sub {es ds : List D} {loc : Loc} {id : Id} {b n : Nat} (h : nilLoc es ds loc id = some (some b, n)) : loc id = some (some b, n) := by
  unfold nilLoc at h
  split at h
  · rename_i e d _ _
    cases hc : (id.1 == 0 && id.2.1 == 0 && isNilV d && isNilR e) <;> simp only [hc, cond_true, cond_false] at h
    · exact h
    · simp at h
  · exact h

theorem ResRep.nil {es ds : List D} {y : Value} {loc : Loc} (hn : NilL es ds) (hf : flatL ds = true) (h : ResRep w B (one' ds) y loc) : ResRep w B (one' es) y (nilLoc es ds loc) := by
  have ht := tops_one hf
  have ht' := tops_one (hn.flat hf)
  have hnone : ∀ j d, ds[j]? = some d → isNilV d = true → loc (0, 0, j) = none := by
    intro j d hd hv
    cases hl : loc (0, 0, j) with
    | none => rfl
    | some l =>
      have := (h.key _ _ hl).2.2
      rw [ht] at this
      simp only [impC, hd] at this
      rw [isNilV_eq hv] at this
      simp [rowC] at this
  have keep : ∀ id l, loc id = some l → nilLoc es ds loc id = some l := by
    intro id l hl
    unfold nilLoc
    split
    · rename_i e d he hd
      cases hc : (id.1 == 0 && id.2.1 == 0 && isNilV d && isNilR e) <;> simp only [cond_true, cond_false]
      · exact hl
      · simp only [Bool.and_eq_true, beq_iff_eq] at hc
        obtain ⟨⟨⟨h1, h2⟩, h3⟩, h4⟩ := hc
        obtain ⟨a, b, c⟩ := id
        simp only at h1 h2 hd
        subst h1; subst h2
        rw [hnone c d hd h3] at hl
        cases hl
    · exact hl
  have hext : Ext B B w loc w (nilLoc es ds loc) :=
    ⟨Nat.le_refl _, keep, fun b k e fr hk hv => ⟨hk, fun id n hl => hv _ _ (nilLoc_sub hl)⟩, fun id b n k e fr _ hk => ⟨k, e, fr, hk, Nat.le_refl _⟩⟩
  have one : ∀ (j : Nat) (e d : D) (z : Value), es[j]? = some e → ds[j]? = some d → (e = d ∨ (isNilV d = true ∧ isNilR e = true)) → Rep w B loc (impD 0 0 j d) z → Rep w B (nilLoc es ds loc) (impD 0 0 j e) z := by
    intro j e d z he hd hed hr
    rcases hed with rfl | ⟨h1, h2⟩
    · exact Rep.ext hext _ _ hr
    · have h1' := h1
      have h2' := h2
      rw [isNilV_eq h1] at hr
      obtain ⟨sz, he'⟩ := isNilR_eq h2
      rw [he']
      simp only [impD, Rep] at hr ⊢
      have hl : nilLoc es ds loc (0, 0, j) = some (none, 0) := by
        unfold nilLoc
        simp only [he, hd, h1', h2', beq_self_eq_true, Bool.and_self, cond_true]
      exact ⟨none, 0, none, 0, hr.1, Nat.le_refl _, hl, by simp, by simp, by simp⟩
  have many : ∀ (es' ds' : List D) (j : Nat) (vs : List Value), (∀ i, es'[i]? = es[j + i]?) → (∀ i, ds'[i]? = ds[j + i]?) → NilL es' ds' → RepL w B loc (impL 0 0 j ds') vs → RepL w B (nilLoc es ds loc) (impL 0 0 j es') vs := by
    intro es'
    induction es' with
    | nil => intro ds' j vs _ _ hn' hr; cases ds' with
      | nil => simpa only [impL, RepL] using hr
      | cons d r => exact hn'.elim
    | cons e es' ih =>
      intro ds' j vs h1 h2 hn' hr
      cases ds' with
      | nil => exact hn'.elim
      | cons d ds' =>
        simp only [impL, RepL] at hr ⊢
        obtain ⟨z, zs, rfl, r1, r2⟩ := hr
        refine ⟨z, zs, rfl, one j e d z ?_ ?_ hn'.1 r1, ih ds' (j + 1) zs ?_ ?_ hn'.2 r2⟩
        · have := h1 0; simpa using this.symm
        · have := h2 0; simpa using this.symm
        · intro i; have := h1 (i + 1); rw [show j + 1 + i = j + (i + 1) by omega]; simpa using this
        · intro i; have := h2 (i + 1); rw [show j + 1 + i = j + (i + 1) by omega]; simpa using this
  refine ⟨?_, ?_, ?_, ?_, ?_, ?_⟩
  · rw [ht']; have := h.new; rw [ht] at this; exact hn.clean this
  · have hr := h.rep
    match es, ds, hn, hf, hr with
    | [], [], _, _, hr => exact hr
    | [e], [d], hn, hf, hr =>
      have he : impV 0 0 (one' [e]) = impD 0 0 0 e := by
        have := hn.flat hf
        cases e <;> first | rfl | (simp [flatL] at this)
      have hd : impV 0 0 (one' [d]) = impD 0 0 0 d := by cases d <;> first | rfl | (simp [flatL] at hf)
      rw [he]
      rw [hd] at hr
      exact one 0 e d y rfl rfl hn.1 hr
    | e :: e' :: es, d :: d' :: ds, hn, hf, hr =>
      simp only [one', impV] at hr ⊢
      rw [Rep] at hr ⊢
      obtain ⟨vs, h1, h2⟩ := hr
      exact ⟨vs, h1, many _ _ 0 vs (fun i => by rw [Nat.zero_add]) (fun i => by rw [Nat.zero_add]) hn h2⟩
    | [e], d :: d' :: ds, hn, _, _ => exact hn.2.elim
    | e :: e' :: es, [d], hn, _, _ => exact hn.2.elim
  · intro id b n hl; exact h.range _ _ _ (nilLoc_sub hl)
  · intro id l hl
    rw [ht']
    unfold nilLoc at hl
    have old : loc id = some l → id.1 = 0 ∧ id.2.1 = 0 ∧ (impC es id.2.2).isSome = true := by
      intro hl
      obtain ⟨h1, h2, h3⟩ := h.key _ _ hl
      rw [ht] at h3
      refine ⟨h1, h2, ?_⟩
      rcases hn.get id.2.2 with ⟨_, q⟩ | ⟨e, d, q1, q2, q3⟩
      · simp [impC, q] at h3
      · simp only [impC, q1, q2] at h3 ⊢
        rcases q3 with rfl | ⟨q3, q4⟩
        · exact h3
        · rw [isNilV_eq q3] at h3; simp [rowC] at h3
    split at hl
    · rename_i e d he hd
      cases hc : (id.1 == 0 && id.2.1 == 0 && isNilV d && isNilR e) <;> simp only [hc, cond_true, cond_false] at hl
      · exact old hl
      · simp only [Bool.and_eq_true, beq_iff_eq] at hc
        refine ⟨hc.1.1.1, hc.1.1.2, ?_⟩
        obtain ⟨sz, he'⟩ := isNilR_eq hc.2
        simp [impC, he, he', rowC]
    · exact old hl
  · intro id id' b n n' hl hl'
    exact h.inj _ _ _ _ _ (nilLoc_sub hl) (nilLoc_sub hl')
  · intro j c hj
    rw [ht'] at hj
    rcases hn.get j with ⟨q, _⟩ | ⟨e, d, q1, q2, q3⟩
    · simp [impC, q] at hj
    · simp only [impC, q1] at hj
      rcases q3 with rfl | ⟨q3, q4⟩
      · obtain ⟨l, xs, r1, r2, r3⟩ := h.mem j c (by rw [ht]; simp only [impC, q2]; exact hj)
        exact ⟨l, xs, keep _ _ r1, Rep.ext hext _ _ r2, r3⟩
      · have q4' := q4
        obtain ⟨sz, he'⟩ := isNilR_eq q4
        rw [he'] at hj
        simp only [rowC, Option.some.injEq] at hj
        subst hj
        refine ⟨none, [], ?_, ?_, rfl⟩
        · unfold nilLoc
          simp only [q1, q2, q3, q4', beq_self_eq_true, Bool.and_self, cond_true]
          rfl
        · simp only [Rep]; exact ⟨trivial, rfl⟩
end

def finQN (T : Types) (rs : List ResultVar) (res : D) (s : St) : Prop :=
  resK T s rs fun ds => distinct (topIds ds) = true ∧ ∃ ds', mapO (expD (topIds ds) s.m) ds = some ds' ∧ ∃ es, flatL ds' = true ∧ NilL es ds' ∧ res = one' es
def bodyQN (T : Types) (rs : List ResultVar) (res : D) : Ex → St → Prop
  | .normal, s => finQN T rs res s
  | .ret, s => finQN T rs res s
  | .exit _, _ => False

/-- THE CONTRACT OF A FUNCTION, FROM ITS BODY; nil slices that are handed back may be told as empty ones. -/
theorem satN_of_wp {P : Program} {T : Types} (hm : P.follows .mixedOrders = true) (hT : TOk P T) {g : FuncId} {fn : Func} {c : Code} {args : List D} {res : D} (hf : P.funcs[g]? = some fn) (hb : fn.body = some c)
    (hname : (fn.name == "runtime.NumGoroutine") = false) {k : Nat} (hk : fn.ntmps = k) (hlen : Nat.ble args.length k = true) (hsmall : Nat.ble k lentKey = true) {rs : Array ResultVar} (hrs : fn.results = rs)
    (hcode : codeOk k c = true) (h : wp P T c (bodyQN T rs.toList res) (entry args)) : Sat P g args res := by
  refine ⟨⟨fn, c, hf, hb, hname⟩, fun w vs hr => ?_⟩
  have hal := hr.length
  have hlen' := Nat.le_of_ble_eq_true hlen
  refine calls_of_wp hf hb ?_
  have hinv : Inv P T k w noLoc (entry args) { tmps := ⟨vs⟩ ++ Array.replicate (fn.ntmps - (⟨vs⟩ : Array Value).size) undef, defers := [] } w noLoc := by
    refine ⟨hT, by simp [hk]; omega, Nat.le_of_ble_eq_true hsmall, rfl, ⟨rfl, rfl, rfl, Nat.le_refl _, fun _ _ _ => rfl, fun b k e fr hk => ⟨k, e, fr, hk, Nat.le_refl _⟩⟩, fun i => ?_, fun id c hc => by simp [entry] at hc, fun id l hl => by simp [noLoc] at hl, fun id b k hl => by simp [noLoc] at hl, fun id c hc => by simp [entry] at hc, fun _ _ => rfl, fun id id' c c' b k k' hc => by simp [entry] at hc⟩
    simp only [entry]
    rw [List.getD_eq_getElem?_getD]
    cases hd : args[i]? with
    | none => simp [Rep]
    | some d =>
      obtain ⟨y, h1, h2⟩ := hr.get i d hd
      have hlt : i < vs.length := (List.getElem?_eq_some_iff.1 h1).1
      have : (({ tmps := (⟨vs⟩ : Array Value) ++ Array.replicate (fn.ntmps - (⟨vs⟩ : Array Value).size) undef, defers := [] } : Act).tmps.getD i undef) = y := by
        rw [Array.getD_eq_getD_getElem?, Array.getElem?_append_left (by simpa using hlt)]
        simp [h1]
      rw [this]
      exact h2
  refine wp_sound hm c hcode _ _ _ _ _ _ h hinv ?_
  intro e x s' a' w' loc' he hq hi
  have fin : finQN T rs.toList res s' → a'.defers = [] ∧ ∃ v, (results fn a'.tmps).run P w' = .ok v w' ∧ (∃ y loc, Ending.returned v = .returned y ∧ RowKit.Below w.heap.size w w' ∧ ResRep w' w.heap.size res y loc) := by
    intro hq
    obtain ⟨ds, vs', ⟨h1, ds', h2, es, h5, h6, rfl⟩, h3, h4⟩ := resK_sound hi rs.toList _ hq
    obtain ⟨locr, hres⟩ := exp_sound hi h3 h1 h2
    refine ⟨hi.defers, _, run_results (by rw [hrs]; exact h4), _, _, rfl, ?_, hres.nil h6 h5⟩
    exact ⟨hi.same.os, hi.same.tape, hi.same.output, hi.same.size, fun k hk => hi.same.block k hk (fun h => by obtain ⟨_, _, _, _, h⟩ := h; cases h)⟩
  cases e with
  | normal => cases he; exact fin hq
  | ret => cases he; exact fin hq
  | exit id => cases he; exact hq.elim
  | _ => cases he
theorem SatM.of_eq {P : Program} {g : FuncId} {args args' ms ms0 : List D} {res : D} {ms' : List (Option D)} {news : List D} (h : SatM P g args ms res ms' news) (e : args' = args) (e2 : ms0 = ms) : SatM P g args' ms0 res ms' news := by
  rw [e, e2]; exact h
/-- Values that a function carries with it, told as data. -/
structure CapOk (caps : List D) : Prop where
  deep : ∀ m, mapO (deep false [] m depth) caps = some caps
  ren : ∀ rn, mapO (renD rn 11) caps = some caps
theorem CapOk.fn {caps : List D} (h : CapOk caps) (f : Fn) (rn : Rn) : renD rn depth (.fn f [] caps) = some (.fn f [] caps) := by
  have := h.ren rn
  show renD rn (11 + 1) (.fn f [] caps) = _
  rw [renD]
  simp only [mapO, this]
theorem CapOk.one {caps : List D} (h : CapOk caps) {m : Id → Option D} {x y : D} (hx : V.deep false [] m depth x = some y) : mapO (V.deep false [] m depth) ([] ++ ([x] ++ caps)) = some (y :: caps) := by
  simp only [List.nil_append, List.cons_append, mapO, hx, h.deep]
theorem CapOk.two {caps : List D} (h : CapOk caps) {m : Id → Option D} {x y x' y' : D} (hx : V.deep false [] m depth x = some y) (hx' : V.deep false [] m depth x' = some y') : mapO (V.deep false [] m depth) ([] ++ ([x, x'] ++ caps)) = some (y :: y' :: caps) := by
  simp only [List.nil_append, List.cons_append, mapO, hx, hx', h.deep]
theorem CapOk.nil : CapOk [] := ⟨fun _ => rfl, fun _ => rfl⟩
end Go.V
