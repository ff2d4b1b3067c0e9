/- The contract of a function that writes to blocks that are lent to it, from the weakest precondition of its body. -/
import Derived.Test.YtndlknhakdadjaaV14
set_option linter.unusedVariables false
set_option linter.unusedSimpArgs false
namespace Go.V

/-- The state at the begin of a function to which blocks are lent. -/
def entryM (args ms : List D) : St := { t := fun i => args.getD i .junk, m := lentM ms, c := fun _ => 0 }
/-- The names behind the call: lent blocks keep theirs, some of the call's own are the new ones. -/
def outF (ro : List Id) (id : Id) : Option Id := bif Nat.ble lentKey id.1 then some id else (match findId ro id 0 with | some j => some (0, 0, j) | none => none)
def lentOk (m : Id → Option D) (f : Id → Option Id) : Nat → List (Option D) → Prop
  | _, [] => True
  | k, none :: r => lentOk m f (k + 1) r
  | k, some c :: r => (∃ c0, m (lentId k) = some c0 ∧ mapD true f depth c0 = some c) ∧ lentOk m f (k + 1) r
def newC (m : Id → Option D) (f : Id → Option Id) (id : Id) : Option D := match m id with | some c => mapD true f depth c | none => none
def finQM (T : Types) (rs : List ResultVar) (res : D) (ms' : List (Option D)) (news : List D) (s : St) : Prop :=
  resK T s rs fun ds => ∃ (ro : List Id) (ds' : List D), distinctIds ro = true ∧ (ro.all fun id => Nat.blt id.1 lentKey) = true ∧ mapO (mapD true (outF ro) depth) ds = some ds' ∧ res = one' ds' ∧
    lentOk s.m (outF ro) 0 ms' ∧ mapO (newC s.m (outF ro)) ro = some news
def bodyQM (T : Types) (rs : List ResultVar) (res : D) (ms' : List (Option D)) (news : List D) : Ex → St → Prop
  | .normal, s => finQM T rs res ms' news s
  | .ret, s => finQM T rs res ms' news s
  | .exit _, _ => False

theorem lentOk_get {m : Id → Option D} {f : Id → Option Id} : ∀ {ms : List (Option D)} {k0 : Nat}, lentOk m f k0 ms → ∀ {k : Nat} {c : D}, ms[k]? = some (some c) → ∃ c0, m (lentId (k0 + k)) = some c0 ∧ mapD true f depth c0 = some c
  | [], k0, _, k, c, h => by simp at h
  | none :: r, k0, hl, k, c, h => by
    cases k with
    | zero => simp at h
    | succ k =>
      have := lentOk_get (ms := r) hl (k := k) (by simpa using h)
      rw [show k0 + (k + 1) = k0 + 1 + k by omega]
      exact this
  | some x :: r, k0, hl, k, c, h => by
    cases k with
    | zero => simp at h; subst h; exact hl.1
    | succ k =>
      have := lentOk_get (ms := r) hl.2 (k := k) (by simpa using h)
      rw [show k0 + (k + 1) = k0 + 1 + k by omega]
      exact this
theorem rep_one {w : World} {base : Nat} {loc : Loc} : ∀ {ds : List D} {vs : List Value}, RepL w base loc ds vs → Rep w base loc (one' ds) (joinV vs)
  | [], vs, h => by simp only [RepL] at h; subst h; simp [one', joinV, Rep, RepL]
  | [d], vs, h => by
    simp only [RepL] at h
    obtain ⟨y, ys, rfl, h1, rfl⟩ := h
    exact h1
  | d :: e :: r, vs, h => by
    have hl := h.length
    match vs, h, hl with
    | [], _, hl => simp at hl
    | [v], _, hl => simp at hl
    | v :: v' :: vs', h, _ => simp only [one']; rw [Rep]; exact ⟨_, rfl, h⟩

section
variable {P : Program} {T : Types}

/-- THE CONTRACT, FROM THE BODY. -/
theorem satM_of_wp (hm : P.follows .mixedOrders = true) (hT : TOk P T) {g : FuncId} {fn : Func} {c : Code} {args ms : List D} {res : D} {ms' : List (Option D)} {news : List D} (hf : P.funcs[g]? = some fn) (hb : fn.body = some c)
    (hname : (fn.name == "runtime.NumGoroutine") = false) {k : Nat} (hk : fn.ntmps = k) (hlen : Nat.ble args.length k = true) (hsmall : Nat.ble k lentKey = true) {rs : Array ResultVar} (hrs : fn.results = rs)
    (hcode : codeOk k c = true) (h : wp P T c (bodyQM T rs.toList res ms' news) (entryM args ms)) : SatM P g args ms res ms' news := by
  refine ⟨⟨fn, c, hf, hb, hname⟩, fun w vs l0 hlt hr => ?_⟩
  have hal := hr.length
  have hlen' := Nat.le_of_ble_eq_true hlen
  refine calls_of_wp hf hb ?_
  have hinv : Inv P T k w l0 (entryM args ms) { tmps := ⟨vs⟩ ++ Array.replicate (fn.ntmps - (⟨vs⟩ : Array Value).size) undef, defers := [] } w l0 := by
    refine ⟨hT, by simp [hk]; omega, Nat.le_of_ble_eq_true hsmall, rfl, ⟨rfl, rfl, rfl, Nat.le_refl _, fun _ _ _ => rfl, fun b k e fr hk => ⟨k, e, fr, hk, Nat.le_refl _⟩⟩, fun i => ?_, hlt.mem,
      fun id l hl hk => ?_, fun id b k hl => ⟨fun hg => .inr ⟨id, k, hlt.dom _ _ hl, hg, hl⟩, hlt.range _ _ _ hl⟩, fun id c hc => ?_, fun _ _ => rfl, hlt.inj⟩
    · simp only [entryM]
      rw [List.getD_eq_getElem?_getD]
      cases hd : args[i]? with
      | none => simp [Rep]
      | some d =>
        obtain ⟨y, h1, h2⟩ := hr.get i d hd
        have hltv : i < vs.length := (List.getElem?_eq_some_iff.1 h1).1
        have : (({ tmps := (⟨vs⟩ : Array Value) ++ Array.replicate (fn.ntmps - (⟨vs⟩ : Array Value).size) undef, defers := [] } : Act).tmps.getD i undef) = y := by
          rw [Array.getD_eq_getD_getElem?, Array.getElem?_append_left (by simpa using hltv)]
          simp [h1]
        rw [this]
        exact h2
    · have := hlt.dom _ _ hl; omega
    · obtain ⟨_, _, _, h3⟩ := lentM_some hc; exact h3
  refine wp_sound hm c hcode _ _ _ _ _ _ h hinv ?_
  intro e x s' a' w' loc' he hq hi
  have fin : finQM T rs.toList res ms' news s' → a'.defers = [] ∧ ∃ v, (results fn a'.tmps).run P w' = .ok v w' ∧ (∃ y loc, Ending.returned v = .returned y ∧ Back w w' l0 res ms' news y loc) := by
    intro hq
    obtain ⟨ds, vs', ⟨ro, ds', g1, g2, g3, rfl, g5, g6⟩, h3, h4⟩ := resK_sound hi rs.toList _ hq
    have hlow : ∀ (j : Nat) (id : Id), ro[j]? = some id → id.1 < lentKey := by
      intro j id hj
      have := List.all_eq_true.1 g2 _ (List.mem_of_getElem? hj)
      rw [blt_eq] at this
      simpa using this
    let locr : Loc := fun id => bif Nat.ble lentKey id.1 then loc' id else (if id.1 = 0 ∧ id.2.1 = 0 then (match ro[id.2.2]? with | some i => loc' i | none => none) else none)
    have hhi : ∀ id : Id, lentKey ≤ id.1 → locr id = loc' id := by
      intro id hid
      simp only [locr]
      rw [ble_true hid]; rfl
    have hnw : ∀ (j : Nat) (id : Id), ro[j]? = some id → locr (0, 0, j) = loc' id := by
      intro j id hj
      have h0 : Nat.ble lentKey 0 = false := by decide
      simp only [locr, h0, cond_false, and_self, if_true, hj]
    have hcase : ∀ id l, locr id = some l → (lentKey ≤ id.1 ∧ loc' id = some l) ∨ (id.1 < lentKey ∧ ∃ i, id = (0, 0, id.2.2) ∧ ro[id.2.2]? = some i ∧ loc' i = some l) := by
      intro id l hl
      rcases Nat.lt_or_ge id.1 lentKey with hlt | hge
      · right
        simp only [locr] at hl
        have hc : Nat.ble lentKey id.1 = false := by rw [Bool.eq_false_iff]; intro e; have := Nat.le_of_ble_eq_true e; omega
        rw [hc] at hl
        simp only [cond_false] at hl
        split at hl
        · rename_i h0
          split at hl
          · rename_i i hi
            obtain ⟨x, y, z⟩ := id
            simp only at h0
            exact ⟨hlt, i, by rw [h0.1, h0.2], hi, hl⟩
          · cases hl
        · cases hl
      · rw [hhi id hge] at hl; exact .inl ⟨hge, hl⟩
    have hsub : ∀ b, loc'.avoids b → locr.avoids b := by
      intro b hv id n hl
      rcases hcase id _ hl with ⟨_, q⟩ | ⟨_, i, _, _, q⟩
      · exact hv _ _ q
      · exact hv _ _ q
    have hf2 : ∀ id id' l, outF ro id = some id' → loc' id = some l → locr id' = some l := by
      intro id id' l ho hl
      unfold outF at ho
      cases hc : Nat.ble lentKey id.1 <;> simp only [hc, cond_true, cond_false] at ho
      · split at ho
        · rename_i j hj
          simp only [Option.some.injEq] at ho
          subst ho
          obtain ⟨_, q⟩ := findId_some hj
          rw [Nat.sub_zero] at q
          rw [hnw _ _ q]; exact hl
        · cases ho
      · simp only [Option.some.injEq] at ho
        subst ho
        rw [hhi _ (Nat.le_of_ble_eq_true hc)]; exact hl
    have hmap : ∀ d d' y, mapD true (outF ro) depth d = some d' → Rep w' w.heap.size loc' d y → Rep w' w.heap.size locr d' y :=
      fun d d' y h1 h2 => mapD_sound hf2 hsub (fun _ => Nat.le_refl _) depth d d' y h1 h2
    have hlenN : ∀ (j : Nat) (id : Id), ro[j]? = some id → j < news.length := by
      intro j id hj
      obtain ⟨y, hy, _⟩ := (mapO_getO g6 j).1 _ hj
      exact (List.getElem?_eq_some_iff.1 hy).1
    have hcont : ∀ id c, outM ms' news id = some c → ∃ i c0, s'.m i = some c0 ∧ mapD true (outF ro) depth c0 = some c ∧ locr id = loc' i ∧ ((lentKey ≤ id.1 ∧ i = id) ∨ (id.1 < lentKey ∧ id = (0, 0, id.2.2) ∧ ro[id.2.2]? = some i)) := by
      intro id c hc
      rcases outM_some hc with ⟨kk, rfl, q1, q2⟩ | ⟨j, rfl, q1⟩
      · obtain ⟨c0, r1, r2⟩ := lentOk_get g5 q1
        rw [Nat.zero_add] at r1
        exact ⟨_, c0, r1, r2, hhi _ (by simp [lentId]), .inl ⟨by simp [lentId], rfl⟩⟩
      · obtain ⟨i, r1, r2⟩ := (mapO_getO g6 j).2 _ q1
        unfold newC at r2
        split at r2
        · rename_i c0 hc0
          exact ⟨i, c0, hc0, r2, hnw _ _ r1, .inr ⟨by show 0 < lentKey; decide, rfl, r1⟩⟩
        · cases r2
    refine ⟨hi.defers, _, run_results (by rw [hrs]; exact h4), _, locr, rfl, hi.same, rep_one (mapO_rep hmap g3 h3), ?_, ?_, ?_, ?_, ?_⟩
    · intro id hid
      rw [hhi id hid]; exact hi.lent id hid
    · intro id l hl hlt'
      rcases hcase id _ hl with ⟨q, _⟩ | ⟨_, i, q1, q2, _⟩
      · omega
      · refine ⟨by rw [q1], by rw [q1], hlenN _ _ q2⟩
    · intro id b n hl hlt'
      rcases hcase id _ hl with ⟨q, _⟩ | ⟨_, i, q1, q2, q3⟩
      · omega
      · have := hi.range _ _ _ q3
        exact ⟨this.1 (Nat.lt_trans (hlow _ _ q2) (by decide)), this.2⟩
    · intro id c hc
      obtain ⟨i, c0, q1, q2, q3, _⟩ := hcont id c hc
      obtain ⟨l, xs, r1, r2, r3⟩ := hi.mem i c0 q1
      exact ⟨l, xs, q3.trans r1, hmap _ _ _ q2 r2, r3⟩
    · intro id id' c c' b n n' hc hc' hl hl'
      obtain ⟨i, c0, q1, q2, q3, q4⟩ := hcont id c hc
      obtain ⟨i', c0', q1', q2', q3', q4'⟩ := hcont id' c' hc'
      rw [q3] at hl
      rw [q3'] at hl'
      have := hi.inj _ _ _ _ _ _ _ q1 q1' hl hl'
      subst this
      rcases q4 with ⟨r1, rfl⟩ | ⟨r1, r2, r3⟩ <;> rcases q4' with ⟨r1', r'⟩ | ⟨r1', r2', r3'⟩
      · exact r'
      · have := hlow _ _ r3'; omega
      · subst r'; have := hlow _ _ r3; omega
      · have := distinctIds_get g1 r3 r3'
        rw [r2, r2', this]
  cases e with
  | normal => cases he; exact fin hq
  | ret => cases he; exact fin hq
  | exit id => cases he; exact hq.elim
  | _ => cases he
end
end Go.V
