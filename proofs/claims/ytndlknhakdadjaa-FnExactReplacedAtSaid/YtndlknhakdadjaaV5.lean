/- The abstract states are sound, fourth part: what makes memory, and calls. -/
import Derived.Test.YtndlknhakdadjaaV4
set_option linter.unusedVariables false
set_option linter.unusedSimpArgs false
namespace Go.V

section
variable {P : Program} {T : Types} {w : World} {base : Nat} {loc : Loc}

theorem splice_set {α : Type} (l : List α) (k : Nat) (v : α) (rest : List α) (hk : k < l.length) : splice (l.set k v) (k + 1) rest = splice l k (v :: rest) := by
  unfold splice
  rw [List.take_set, List.drop_set_of_lt (by omega)]
  have : (l.take (k + 1)).set k v = l.take k ++ [v] := by
    rw [List.take_succ_eq_append_getElem hk, List.set_append_right _ _ (by simp; omega)]
    simp
    have : k - min k l.length = 0 := by omega
    rw [this]; rfl
  rw [this]
  simp [Nat.add_assoc, Nat.add_comm 1]

theorem foldl_set (off : Nat) : ∀ (us : List Value) (k : Nat) (cells : Array Value), off + k + us.length ≤ cells.size →
    ((us.zipIdx k).foldl (fun (cs : Array Value) (p : Value × Nat) => cs.setIfInBounds (off + p.2) p.1) cells).toList = splice cells.toList (off + k) us
  | [], k, cells, h => by simp [splice]
  | u :: us, k, cells, h => by
    simp only [List.zipIdx_cons, List.foldl_cons]
    simp only [List.length_cons] at h
    rw [foldl_set off us (k + 1) _ (by simp; omega)]
    rw [Array.toList_setIfInBounds]
    have := splice_set cells.toList (off + k) u us (by simp; omega)
    rw [← this]
    rfl

theorem all_splice {p : Value → Bool} {xs ys : List Value} (off : Nat) (h : xs.all p = true) (h' : ys.all p = true) : (splice xs off ys).all p = true := by
  simp only [List.all_eq_true] at h h' ⊢
  intro x hx
  unfold splice at hx
  rcases List.mem_append.1 hx with hx | hx
  · rcases List.mem_append.1 hx with hx | hx
    · exact h x (List.mem_of_mem_take hx)
    · exact h' x hx
  · exact h x (List.mem_of_mem_drop hx)

theorem splice_length {α : Type} (xs ys : List α) (off : Nat) (h : off + ys.length ≤ xs.length) : (splice xs off ys).length = xs.length := by
  unfold splice; simp; omega

theorem ev_parts {s : St} {a : Act} (hev : ∀ x, Rep w base loc (s.ev x) (a.eval x)) :
    ∀ (parts : List (Nat × Operand)), ∀ p ∈ parts.map (fun p => (p.1, s.ev p.2, a.eval p.2)), Rep w base loc p.2.1 p.2.2 := by
  intro parts p hp
  obtain ⟨q, _, rfl⟩ := List.mem_map.1 hp
  exact hev _

theorem scalar_cells {d : D} {y : Value} (h : Rep w base loc d y) (h1 : d ≠ .junk) (h2 : ∀ ds, d ≠ .tup ds) (h3 : ∀ ds, d ≠ .agg ds) (h4 : ∀ a, d ≠ .v (.agg a)) : y.cells = #[y] ∧ y.oneCell' = true := by
  cases d with
  | junk => exact absurd rfl h1
  | tup ds => exact absurd rfl (h2 ds)
  | agg ds => exact absurd rfl (h3 ds)
  | v x =>
    simp only [Rep] at h
    obtain ⟨rfl, hf⟩ := h
    cases y with
    | agg a => exact absurd rfl (h4 a)
    | tuple a => simp [Flat] at hf
    | _ => exact ⟨rfl, rfl⟩
  | ptr id off => simp only [Rep] at h; obtain ⟨_, _, _, rfl⟩ := h; exact ⟨rfl, rfl⟩
  | slc f sz id off len => simp only [Rep] at h; obtain ⟨_, _, _, _, rfl, _⟩ := h; exact ⟨rfl, rfl⟩
  | ref m c off => simp only [Rep] at h; obtain ⟨_, _, _, rfl, _⟩ := h; exact ⟨rfl, rfl⟩
  | row m sz c len => simp only [Rep] at h; obtain ⟨_, _, _, rfl, _⟩ := h; exact ⟨rfl, rfl⟩
  | fn f a b => simp only [Rep] at h; obtain ⟨_, _, rfl, _⟩ := h; exact ⟨rfl, rfl⟩

theorem fill_sound {place : Nat → Option (Nat × Nat)} {s : St} {a : Act} (hev : ∀ x, Rep w base loc (s.ev x) (a.eval x)) :
    ∀ (parts : List (Nat × Operand)) (cells : List D) (vs : List Value) (ds : List D), RepL w base loc cells vs → vs.all Value.oneCell' = true →
      fillD place cells (parts.map fun p => (p.1, s.ev p.2)) = some ds →
      ∃ us, Instr.fill place ⟨vs⟩ (parts.map fun p => (p.1, a.eval p.2)) = some ⟨us⟩ ∧ RepL w base loc ds us ∧ us.all Value.oneCell' = true ∧ us.length = vs.length
  | [], cells, vs, ds, hc, h1, h => by
    simp only [List.map_nil, fillD, Option.some.injEq] at h
    subst h
    exact ⟨vs, rfl, hc, h1, rfl⟩
  | (i, x) :: parts, cells, vs, ds, hc, h1, h => by
    simp only [List.map_cons, fillD] at h
    have hx := hev x
    have hlen := hc.length
    have step : ∀ (off size : Nat) (us : List Value) (es : List D), place i = some (off, size) → (a.eval x).cells = ⟨us⟩ → us.length = size → off + size ≤ cells.length → RepL w base loc es us → us.all Value.oneCell' = true →
        fillD place (splice cells off es) (parts.map fun p => (p.1, s.ev p.2)) = some ds →
        ∃ us', Instr.fill place ⟨vs⟩ (((i, x) :: parts).map fun p => (p.1, a.eval p.2)) = some ⟨us'⟩ ∧ RepL w base loc ds us' ∧ us'.all Value.oneCell' = true ∧ us'.length = vs.length := by
      intro off size us es hp hcs hl hle hr hone hf
      obtain ⟨us', g1, g2, g3, g4⟩ := fill_sound hev parts (splice cells off es) (splice vs off us) ds (hc.splice off hr) (all_splice off h1 hone) hf
      refine ⟨us', ?_, g2, g3, by rw [g4, splice_length _ _ _ (by omega)]⟩
      simp only [List.map_cons, Instr.fill, hp, hcs]
      have hcond : (decide ((⟨us⟩ : Array Value).size ≠ size) || decide (off + (⟨us⟩ : Array Value).size > (⟨vs⟩ : Array Value).size)) = false := by
        simp [hl]; omega
      simp only [hcond, Bool.false_eq_true, if_false]
      rw [← g1]
      congr 1
      apply Array.ext'
      rw [← Array.foldl_toList]
      have := foldl_set off us 0 ⟨vs⟩ (by simp; omega)
      simpa using this
    split at h
    · simp at h
    · rename_i off size hp
      split at h
      · rename_i arr he
        rw [he] at hx
        simp only [Rep] at hx
        obtain ⟨hy, hf⟩ := hx
        cases hb : (arr.toList.length == size && Nat.ble (off + size) cells.length) <;> simp only [hb, cond_true, cond_false] at h
        · simp at h
        · simp only [Bool.and_eq_true, beq_iff_eq] at hb
          simp only [Flat] at hf
          exact step off size arr.toList _ hp (by rw [hy]; rfl) hb.1 (Nat.le_of_ble_eq_true hb.2) (.vals hf) hf h
      · rename_i es he
        rw [he] at hx
        simp only [Rep] at hx
        obtain ⟨us, hy, hr, hone⟩ := hx
        cases hb : (es.length == size && Nat.ble (off + size) cells.length) <;> simp only [hb, cond_true, cond_false] at h
        · simp at h
        · simp only [Bool.and_eq_true, beq_iff_eq] at hb
          exact step off size us es hp (by rw [hy]; rfl) (by rw [← hr.length]; exact hb.1) (Nat.le_of_ble_eq_true hb.2) hr hone h
      · simp at h
      · simp at h
      · rename_i d h2 h3 h4 h5
        cases hb : (size == 1 && Nat.ble (off + 1) cells.length) <;> simp only [hb, cond_true, cond_false] at h
        · simp at h
        · simp only [Bool.and_eq_true, beq_iff_eq] at hb
          obtain ⟨rfl, hb⟩ := hb
          have hb := Nat.le_of_ble_eq_true hb
          obtain ⟨hy, hone⟩ := scalar_cells hx (by intro e; exact h4 e) (by intro ds e; exact h5 ds e) (by intro ds e; exact h3 ds e) (by intro a e; exact h2 a e)
          refine step off 1 [a.eval x] [s.ev x] hp hy rfl (by omega) (by simp only [RepL]; exact ⟨_, _, rfl, hx, rfl⟩) (by simp [hone]) ?_
          rw [← h]
          congr 1
          have := splice_set cells off (s.ev x) [] (by omega)
          rw [← this]
          simp [splice]

theorem rep_succ {α : Type} (n : Nat) (xs : List α) : rep (n + 1) xs = rep n xs ++ xs := by
  simp [rep, List.replicate_succ', List.flatten_append]
theorem rep_length {α : Type} (n : Nat) (xs : List α) : (rep n xs).length = n * xs.length := by
  induction n with
  | zero => simp [rep]
  | succ n ih => rw [rep_succ, List.length_append, ih, Nat.add_mul, Nat.one_mul]
theorem rep_add {α : Type} (n m : Nat) (xs : List α) : rep (n + m) xs = rep n xs ++ rep m xs := by
  induction m with
  | zero => simp [rep]
  | succ m ih => rw [← Nat.add_assoc, rep_succ, ih, rep_succ, List.append_assoc]
theorem all_rep {p : Value → Bool} {xs : List Value} (n : Nat) (h : xs.all p = true) : (rep n xs).all p = true := by
  induction n with
  | zero => simp [rep]
  | succ n ih => rw [rep_succ, List.all_append, ih, h]; rfl
theorem RepL.rep {ds : List D} {vs : List Value} (n : Nat) (h : RepL w base loc ds vs) : RepL w base loc (rep n ds) (rep n vs) := by
  induction n with
  | zero => simp [V.rep, RepL]
  | succ n ih => rw [rep_succ, rep_succ]; exact ih.append h

theorem zeros_rep (z : Array Value) (n : Nat) : ((Array.range (n * z.size)).map (fun i => z[i % z.size]!)).toList = rep n z.toList := by
  induction n with
  | zero => simp [rep]
  | succ n ih =>
    rw [rep_succ, ← ih, Nat.add_mul, Nat.one_mul]
    simp only [Array.toList_map, Array.toList_range, List.range_add, List.map_append, List.map_map]
    congr 1
    apply List.ext_getElem
    · simp
    · intro i h1 h2
      simp at h1 h2
      have : (n * z.size + i) % z.size = i := by rw [Nat.mul_comm, Nat.mul_add_mod, Nat.mod_eq_of_lt h1]
      simp [this, h1]

theorem foldl_push (l : List UInt8) : ∀ r : ByteArray, ((l.map fun b => ((b.toNat : Nat) : Int)).foldl (fun r n => r.push (UInt8.ofNat n.toNat)) r).data.toList = r.data.toList ++ l := by
  induction l with
  | nil => intro r; simp
  | cons b l ih =>
    intro r
    simp only [List.map_cons, List.foldl_cons]
    rw [ih]
    simp [ByteArray.push]

theorem bytes_back (b : ByteArray) : ((b.data.toList.map fun b => ((b.toNat : Nat) : Int)).foldl (fun r n => r.push (UInt8.ofNat n.toNat)) ByteArray.empty) = b := by
  have := foldl_push b.data.toList ByteArray.empty
  have e : ∀ x y : ByteArray, x.data.toList = y.data.toList → x = y := by
    intro x y h
    obtain ⟨⟨x⟩⟩ := x
    obtain ⟨⟨y⟩⟩ := y
    simp at h
    rw [h]
  apply e
  rw [this]
  rfl

theorem contOf_sound {s : St} (hm : MemOk w base loc s.m) {x : D} {y : Value} {m : Bool} {c : D} {n sz : Nat} (hx : Rep w base loc x y) (hc : contOf s x = some (m, c)) (hl : lenD x = some n) (hs : szOf x = some sz ∨ n = 0) :
    ∃ a cap xs, y = .slice a n cap ∧ n ≤ cap ∧ Rep w base loc c (.agg ⟨xs⟩) ∧ (szOf x = some sz → xs.length = n * sz) ∧ (xs.length = 0 ∨ ∃ b o, a = some ⟨b, o, none⟩ ∧ At w b o xs) := by
  cases x with
  | slc f s' id off len =>
    simp only [lenD, Option.some.injEq] at hl
    subst hl
    simp only [szOf, Option.some.injEq] at hs ⊢
    simp only [Rep] at hx
    obtain ⟨a, cap, l, n', rfl, h3, h4, h5, h6, h7⟩ := hx
    have main : ∀ c0 c', s.m id = some c0 → (∀ xs, Rep w base loc c0 (.agg ⟨xs⟩) → Rep w base loc c' (.agg ⟨(xs.drop off).take (len * s')⟩)) → c' = c →
        ∃ a' cap' xs, Value.slice a len cap = .slice a' len cap' ∧ len ≤ cap' ∧ Rep w base loc c (.agg ⟨xs⟩) ∧ (s' = sz → xs.length = len * sz) ∧ (xs.length = 0 ∨ ∃ b o, a' = some ⟨b, o, none⟩ ∧ At w b o xs) := by
      rintro c0 c' hc0 hcc rfl
      obtain ⟨l', xs, g1, g2, g3⟩ := hm id c0 hc0
      rw [h4] at g1
      simp only [Option.some.injEq, Prod.mk.injEq] at g1
      obtain ⟨rfl, rfl⟩ := g1
      have hlen : ((xs.drop off).take (len * s')).length = len * s' := by simp; omega
      refine ⟨a, cap, _, rfl, h3, hcc xs g2, fun e => by rw [hlen, e], ?_⟩
      rw [hlen]
      by_cases hz : len * s' = 0
      · exact .inl hz
      · right
        have hl0 : len ≠ 0 := fun e => hz (by simp [e])
        cases l with
        | none => omega
        | some b =>
          obtain ⟨o, rfl, k2, _⟩ := h7
          refine ⟨b, o, rfl, ?_⟩
          have := (At.of_blk g3).sub off (len * s') h5
          rw [Nat.zero_add] at this
          rw [k2 hl0]
          exact this
    simp only [contOf] at hc
    split at hc
    · rename_i arr ha
      simp only [Option.some.injEq, Prod.mk.injEq] at hc
      refine main _ _ ha (fun xs hx => ?_) hc.2
      simp only [Rep, Value.agg.injEq] at hx ⊢
      obtain ⟨rfl, hf⟩ := hx
      refine ⟨rfl, ?_⟩
      simp only [Flat, List.all_eq_true] at hf ⊢
      exact fun x hx => hf x (List.mem_of_mem_drop (List.mem_of_mem_take hx))
    · rename_i ds ha
      simp only [Option.some.injEq, Prod.mk.injEq] at hc
      refine main _ _ ha (fun xs hx => ?_) hc.2
      simp only [Rep, Value.agg.injEq, Array.mk.injEq] at hx ⊢
      obtain ⟨vs, rfl, h2, h3⟩ := hx
      refine ⟨_, rfl, (h2.drop off).take _, ?_⟩
      simp only [List.all_eq_true] at h3 ⊢
      exact fun x hx => h3 x (List.mem_of_mem_drop (List.mem_of_mem_take hx))
    · simp at hc
  | row mi s' c' len =>
    simp only [lenD, Option.some.injEq] at hl
    subst hl
    simp only [szOf, Option.some.injEq] at hs ⊢
    simp only [contOf, Option.some.injEq, Prod.mk.injEq] at hc
    obtain ⟨_, rfl⟩ := hc
    simp only [Rep] at hx
    obtain ⟨a, cap, xs, rfl, h3, h4, h5, h6⟩ := hx
    refine ⟨a, cap, xs, rfl, h3, h4, fun e => by rw [h5, e], ?_⟩
    rcases h6 with h6 | ⟨b, o, g1, g2, _⟩
    · exact .inl (by omega)
    · exact .inr ⟨b, o, g1, g2⟩
  | v x' =>
    unfold contOf at hc
    unfold lenD at hl
    split at hc
    · rename_i h; simp at h
    · rename_i h; simp at h
    · rename_i h
      simp only [D.v.injEq] at h
      subst h
      simp only [Option.some.injEq, Prod.mk.injEq] at hc
      obtain ⟨_, rfl⟩ := hc
      simp only [Option.some.injEq] at hl
      subst hl
      simp only [Rep] at hx
      obtain ⟨rfl, _⟩ := hx
      exact ⟨none, 0, [], rfl, Nat.le_refl _, by simp [Rep, Flat], fun _ => by simp, .inl rfl⟩
    · simp at hc
  | _ => simp [contOf] at hc

end
end Go.V
