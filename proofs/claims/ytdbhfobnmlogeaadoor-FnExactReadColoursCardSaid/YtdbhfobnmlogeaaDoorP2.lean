import Derived.Test.YtdbhfobnmlogeaaDoorP1
/- Colours read from their text: plain words, both sides, and the law. -/
set_option linter.unusedVariables false
set_option linter.unusedSimpArgs false
namespace Go.V
/- Words for the walks of this text: their default arguments are tried where they are used. -/
theorem go_F5 {P Q : Prop} (k : Q) (h : P := by first | exact strOk (by first | omega | (simp; omega)) | exact Nat.le_of_ble_eq_true rfl | exact rfl | decide | omega | (simp [splice]; done) | (constructor <;> omega) | (simp [splice]; omega)) : P ∧ Q := ⟨h, k⟩
theorem lk_F5 {α : Type} {o : Option α} {K : α → Prop} {x : α} (k : K x) (h : o = some x := by first | exact strA (by simp; omega) | exact strA' (by simp; omega) | exact roofN (by omega) (by omega) | exact gridN (by omega) (by omega)) : optK o K := optK_of h k
theorem sc_F5 {P : Program} {g : FuncId} {args args' : List D} {res : D} (h : Sat P g args res) (e : args' = args := by repeat (first | rfl | exact vfull (by first | (simp [splice]; done) | (simp [splice]; omega)) | exact rfull (by first | (simp [splice]; done) | (simp [splice]; omega)) | exact vrow (by simp; done) (by omega) | exact vtiles (by simp) | exact vsplice (by simp) (by simp) | refine ceq ?_ ?_ | refine Eq.trans (vsplice (by first | (simp; done) | (simp; omega)) (by first | (simp; done) | (simp; omega))) ?_)) : Sat P g args' res := Sat.of_eq h e
theorem hold_F5 {P : Prop} (h : P := by (repeat' (first | exact trivial | apply And.intro)) <;> (first | rfl | exact succ8 (by omega) | exact succ64 (by omega) | exact CapOk.fn (by assumption) _ _ | exact vintS (by omega) | exact vintS (by rw [w64 (by omega) (by omega)]; omega) | exact vintS (by rw [w8 (by omega) (by omega)]; omega) | exact vslcS (by omega) | exact vslcS (by simp))) : P := h
theorem okt_F5 {P : Prop} (h : P := by first | omega | (dsimp only; omega) | ((repeat' apply And.intro) <;> omega) | (dsimp only; (repeat' apply And.intro) <;> omega) | trivial) : P := h
end Go.V
namespace Go.V
/-- Pieces, each with the byte behind it. -/
def catL (c : UInt8) (L : List (List UInt8)) : List UInt8 := L.flatMap (· ++ [c])
theorem spl_cat (c : UInt8) : ∀ l : List UInt8, catL c (spl c l) = l ++ [c]
  | [] => by simp [spl, catL]
  | b :: l => by
    have ih := spl_cat c l
    by_cases h : b = c
    · subst h; rw [spl_hit]; unfold catL at *; simp [ih]
    · cases hs : spl c l with
      | nil => exact absurd hs (spl_ne c l)
      | cons x xs =>
        rw [spl_miss h hs]
        rw [hs] at ih
        unfold catL at *
        simp only [List.flatMap_cons, List.cons_append] at ih ⊢
        rw [ih]
theorem spl_snoc (c : UInt8) : ∀ l : List UInt8, spl c (l ++ [c]) = spl c l ++ [[]]
  | [] => by simp [spl]
  | b :: l => by
    have ih := spl_snoc c l
    rw [List.cons_append]
    by_cases h : b = c
    · subst h; rw [spl_hit, spl_hit, ih]; rfl
    · cases hs : spl c l with
      | nil => exact absurd hs (spl_ne c l)
      | cons x xs =>
        rw [hs] at ih
        rw [spl_miss h hs, spl_miss h ih]; rfl
theorem suffix_iff {l : List UInt8} {c : UInt8} : Lib.hasSuffix l [c] = true ↔ ∃ o, l = o ++ [c] := by
  unfold Lib.hasSuffix
  rw [List.isSuffixOf_iff_suffix]
  constructor
  · rintro ⟨t, ht⟩; exact ⟨t, ht.symm⟩
  · rintro ⟨o, ho⟩; exact ⟨o, ho.symm⟩
theorem trim_snoc (o : List UInt8) (c : UInt8) : Lib.trimSuffix (o ++ [c]) [c] = o := by
  unfold Lib.trimSuffix
  rw [if_pos (suffix_iff.2 ⟨o, rfl⟩)]
  simp
/-- The last piece is empty, and it is not the only one: the text ends with the byte. -/
theorem spl_end {c : UInt8} {l : List UInt8} {L : List (List UInt8)} (h : spl c l = L ++ [[]]) (hL : L ≠ []) : Lib.hasSuffix l [c] = true := by
  have h1 := spl_cat c l
  rw [h] at h1
  unfold catL at h1
  rw [List.flatMap_append] at h1
  simp only [List.flatMap_cons, List.flatMap_nil, List.nil_append, List.append_nil] at h1
  have h2 : L.flatMap (· ++ [c]) = l := List.append_cancel_right h1
  rw [suffix_iff]
  have h3 : L = L.dropLast ++ [L.getLast hL] := (List.dropLast_concat_getLast hL).symm
  rw [h3, List.flatMap_append] at h2
  simp only [List.flatMap_cons, List.flatMap_nil, List.append_nil] at h2
  exact ⟨_, by rw [← h2, List.append_assoc]⟩
/-! Colours in lines. -/
def colN (x : List UInt8) : Nat → Nat
  | 0 => 0
  | k + 1 => if x.getD k 0 = 114 then colN x k + 2 ^ k else colN x k
theorem colN_lt (x : List UInt8) : ∀ k, colN x k < 2 ^ k
  | 0 => by simp [colN]
  | k + 1 => by
    have := colN_lt x k
    rw [colN, Nat.pow_succ]
    split <;> omega
theorem colN_bit (x : List UInt8) : ∀ k j, j < k → (colN x k).testBit j = decide (x.getD j 0 = 114)
  | 0, j, h => by omega
  | k + 1, j, h => by
    have hl := colN_lt x k
    rw [colN]
    by_cases hj : j = k
    · subst hj
      by_cases hx : x.getD j 0 = 114
      · rw [if_pos hx, Nat.add_comm, Nat.testBit_two_pow_add_eq, Nat.testBit_lt_two_pow hl, decide_eq_true hx]; rfl
      · rw [if_neg hx, Nat.testBit_lt_two_pow hl, decide_eq_false hx]
    · have ih := colN_bit x k j (by omega)
      by_cases hx : x.getD k 0 = 114
      · rw [if_pos hx, Nat.add_comm, Nat.testBit_two_pow_add_gt (by omega)]; exact ih
      · rw [if_neg hx]; exact ih
theorem bitR_fact : ∀ v : Nat, v < 256 → ∀ j : Nat, j < 8 → bitR (v : Int) j = v.testBit j := by decide +kernel
theorem or_fact : ∀ k : Nat, k < 8 → ∀ x : Nat, x < 2 ^ k → orU8 (x : Int) (IntKind.u8.wrap (1 * 2 ^ (min k IntKind.u8.bits))) = ((x + 2 ^ k : Nat) : Int) := by decide +kernel
theorem colN_or {x : List UInt8} {k : Nat} (hk : k < 8) (h : x.getD k 0 = 114) : orU8 ((colN x k : Nat) : Int) (IntKind.u8.wrap (1 * 2 ^ (min k IntKind.u8.bits))) = ((colN x (k + 1) : Nat) : Int) := by
  rw [or_fact k hk _ (colN_lt x k), colN, if_pos h]
theorem colN_in (x : List UInt8) {k : Nat} (hk : k ≤ 8) : colN x k < 256 := Nat.lt_of_lt_of_le (colN_lt x k) (Nat.pow_le_pow_right (by omega) hk)
/-- Lines as they are when nothing but reds and blues is in them. -/
def nrm (x : List UInt8) : List UInt8 := x.map fun b => if b = 114 then 114 else 98
theorem txtRow_bs {x : List UInt8} {w : Nat} (hw : w ≤ 8) (hx : x.length = w) (a : List UInt8) : ∀ k, k ≤ w → txtRow (bsOf a) ((colN x w : Nat) : Int) k = bsOf (a ++ (nrm x).take k)
  | 0, _ => by simp [txtRow]
  | k + 1, hk => by
    have ih := txtRow_bs hw hx a k (by omega)
    rw [txtRow, ih, bitR_fact _ (colN_in x hw) k (by omega), colN_bit x w k (by omega)]
    have hk' : k < x.length := by omega
    have e : (nrm x).take (k + 1) = (nrm x).take k ++ [if x.getD k 0 = 114 then 114 else 98] := by
      unfold nrm
      rw [List.take_add_one, List.getElem?_map, List.getD_eq_getElem?_getD]
      simp [hk']
    rw [e, ← List.append_assoc, ← bs_append (a ++ (nrm x).take k)]
    congr 1
    by_cases h : x.getD k 0 = 114
    · rw [if_pos h]; simp only [h]; rfl
    · rw [if_neg h]; simp only [h]; rfl
theorem txt_bs {L : List (List UInt8)} {w : Nat} (hw : w ≤ 8) (hL : ∀ x ∈ L, x.length = w) {f : Nat → Int} (hf : ∀ i, i < L.length → f i = ((colN (L.getD i []) w : Nat) : Int)) :
    ∀ n, n ≤ L.length → txt f w n = bsOf (catL 10 ((L.take n).map nrm))
  | 0, _ => by simp [txt, catL]; rfl
  | n + 1, hn => by
    have ih := txt_bs hw hL hf n (by omega)
    have hn' : n < L.length := by omega
    have hx : (L.getD n []).length = w := by
      rw [List.getD_eq_getElem?_getD, List.getElem?_eq_getElem hn']
      exact hL _ (List.getElem_mem hn')
    rw [txt, ih, hf n hn', txtRow_bs hw hx _ w (Nat.le_refl _)]
    have e : L.take (n + 1) = L.take n ++ [L.getD n []] := by
      rw [List.take_add_one, List.getD_eq_getElem?_getD]; simp [hn']
    rw [e, List.map_append]
    unfold catL
    rw [List.flatMap_append]
    have ht : (nrm (L.getD n [])).take w = nrm (L.getD n []) := List.take_of_length_le (by unfold nrm; rw [List.length_map, hx]; exact Nat.le_refl _)
    rw [ht]
    show bsOf _ ++ bsOf [10] = _
    rw [bs_append]
    simp
theorem cat_inj {c : UInt8} : ∀ {L M : List (List UInt8)}, L.map List.length = M.map List.length → catL c L = catL c M → L = M
  | [], [], _, _ => rfl
  | [], _ :: _, h, _ => by simp at h
  | _ :: _, [], h, _ => by simp at h
  | x :: L, y :: M, h, h2 => by
    simp only [List.map_cons, List.cons.injEq] at h
    unfold catL at h2
    simp only [List.flatMap_cons] at h2
    have h3 := List.append_inj h2 (by simp [h.1])
    have h4 := List.append_inj h3.1 h.1
    rw [h4.1, cat_inj h.2 h3.2]
def rbB (x : List UInt8) : Bool := x.all fun b => b == 114 || b == 98
theorem nrm_eq {x : List UInt8} : nrm x = x ↔ rbB x = true := by
  unfold nrm rbB
  induction x with
  | nil => simp
  | cons b x ih =>
    rw [List.map_cons, List.cons.injEq, ih, List.all_cons, Bool.and_eq_true]
    by_cases h : b = 114
    · subst h; simp
    · rw [if_neg h]
      have h1 : (b == 114) = false := by simpa using h
      rw [h1, Bool.false_or, beq_iff_eq]
      constructor
      · rintro ⟨h2, h3⟩; exact ⟨h2.symm, h3⟩
      · rintro ⟨h2, h3⟩; exact ⟨h2.symm, h3⟩
def rcL (l : List UInt8) : List (List UInt8) := spl 10 (Lib.trimSuffix l [10])
/-- One line of a text of colours. -/
def lnB (w : Int) (x : List UInt8) : Bool := decide ((x.length : Int) = w) && rbB x
def rcOk (r : Roof) (l : List UInt8) : Bool := Lib.hasSuffix l [10] && (decide (((rcL l).length : Int) = r.h) && (rcL l).all (lnB r.w))
def rcF (r : Roof) (l : List UInt8) : Nat → Int := if okR r = true ∧ rcOk r l = true then fun i => ((colN ((rcL l).getD i []) r.w.toNat : Nat) : Int) else fun _ => 0
def rcK (r : Roof) (l : List UInt8) : Int := if okR r = true then (if rcOk r l = true then 0 else 5) else 1
def rcV (r : Roof) (l : List UInt8) : D := .tup [row8D (rcF r l), .v (.int .i64 (rcK r l))]
theorem rcV_bad {r : Roof} {l : List UInt8} (h : okR r = false) : rcV r l = .tup [row8D fun _ => 0, .v (.int .i64 1)] := by
  unfold rcV rcF rcK
  rw [if_neg (by simp [h]), if_neg (by simp [h])]
theorem rcV_no {r : Roof} {l : List UInt8} (h : okR r = true) (h2 : rcOk r l = false) : rcV r l = .tup [row8D fun _ => 0, .v (.int .i64 5)] := by
  unfold rcV rcF rcK
  rw [if_neg (by simp [h2]), if_pos h, if_neg (by simp [h2])]
theorem rcV_yes {r : Roof} {l : List UInt8} (h : okR r = true) (h2 : rcOk r l = true) : rcV r l = .tup [row8D fun i => ((colN ((rcL l).getD i []) r.w.toNat : Nat) : Int), .v (.int .i64 0)] := by
  unfold rcV rcF rcK
  rw [if_pos ⟨h, h2⟩, if_pos h, if_pos h2]
theorem rcOk_yes {r : Roof} {l : List UInt8} (h1 : Lib.hasSuffix l [10] = true) (h2 : ((rcL l).length : Int) = r.h) (h3 : ∀ i, i < (rcL l).length → lnB r.w ((rcL l).getD i []) = true) : rcOk r l = true := by
  unfold rcOk
  rw [h1, Bool.true_and, Bool.and_eq_true, List.all_eq_true]
  refine ⟨by simpa using h2, fun x hx => ?_⟩
  obtain ⟨i, hi⟩ := List.getElem?_of_mem hx
  have hl := (List.getElem?_eq_some_iff.1 hi).1
  have := h3 i hl
  rw [List.getD_eq_getElem?_getD, hi] at this
  exact this
theorem rcOk_ln {r : Roof} {l : List UInt8} (h : rcOk r l = true) {i : Nat} (hi : i < (rcL l).length) : lnB r.w ((rcL l).getD i []) = true := by
  unfold rcOk at h
  rw [Bool.and_eq_true, Bool.and_eq_true, List.all_eq_true] at h
  refine h.2.2 _ ?_
  rw [List.getD_eq_getElem?_getD, List.getElem?_eq_getElem hi]
  exact List.getElem_mem hi
theorem rcOk_suf {r : Roof} {l : List UInt8} (h : rcOk r l = true) : Lib.hasSuffix l [10] = true ∧ ((rcL l).length : Int) = r.h := by
  unfold rcOk at h
  rw [Bool.and_eq_true, Bool.and_eq_true] at h
  exact ⟨h.1, by simpa using h.2.1⟩
theorem rcOk_no {r : Roof} {l : List UInt8} {i : Nat} (hi : i < (rcL l).length) (h : lnB r.w ((rcL l).getD i []) = false) : rcOk r l = false := by
  cases h2 : rcOk r l with
  | false => rfl
  | true => rw [rcOk_ln h2 hi] at h; cases h
theorem rcL_snoc (o : List UInt8) : rcL (o ++ [10]) = spl 10 o := by unfold rcL; rw [trim_snoc]
/-- The reference's lines, and the program's. -/
theorem rc_lines {l : List UInt8} (h : Lib.hasSuffix l [10] = true) : spl 10 l = rcL l ++ [[]] := by
  obtain ⟨o, rfl⟩ := suffix_iff.1 h
  rw [rcL_snoc, spl_snoc]
/-- The reference's first look: the last line is not empty, or their number is not told. -/
theorem rc_first {r : Roof} (hb : Rb r) {l : List UInt8} (h : (spl 10 l).getD ((spl 10 l).length - 1) [] = []) (h2 : (((spl 10 l).length - 1 : Nat) : Int) = r.h) : Lib.hasSuffix l [10] = true := by
  have hne := spl_ne 10 l
  have hlen : 2 ≤ (spl 10 l).length := by omega
  have e : spl 10 l = (spl 10 l).dropLast ++ [[]] := by
    have e1 := (List.dropLast_concat_getLast hne).symm
    rw [List.getD_eq_getElem?_getD, List.getElem?_eq_getElem (by omega)] at h
    have e2 : (spl 10 l).getLast hne = [] := by rw [List.getLast_eq_getElem]; exact h
    rw [e2] at e1
    exact e1
  exact spl_end e (by intro hn; have := congrArg List.length hn; simp at this; omega)
/-- Rows of colours as far as some place. -/
def GcR (L : List (List UInt8)) (w i : Nat) (v : Nat) : Nat → Int := fun j => if j < i then ((colN (L.getD j []) w : Nat) : Int) else if j = i then (v : Int) else 0
theorem GcR_zero (L : List (List UInt8)) (w : Nat) : GcR L w 0 0 = fun _ => 0 := by funext j; unfold GcR; simp
theorem GcR_next (L : List (List UInt8)) (w i : Nat) : GcR L w i (colN (L.getD i []) w) = GcR L w (i + 1) 0 := by
  funext j
  unfold GcR
  by_cases h1 : j < i
  · rw [if_pos h1, if_pos (by omega)]
  · rw [if_neg h1]
    by_cases h2 : j = i
    · subst h2; rw [if_pos rfl, if_pos (by omega)]
    · rw [if_neg h2, if_neg (by omega)]; split <;> rfl
theorem GcR_set (L : List (List UInt8)) (w i v v' : Nat) : (row8 (GcR L w i v)).set i (.int .u8 (v' : Int)) = row8 (GcR L w i v') := by
  have h := row8_set (f := GcR L w i v) (g := GcR L w i v') (c := i) (fun j hj => by unfold GcR; simp [hj])
  have e : GcR L w i v' i = (v' : Int) := by unfold GcR; simp
  rw [e] at h
  exact h
theorem GcR_at (L : List (List UInt8)) (w i v : Nat) : GcR L w i v i = (v : Int) := by unfold GcR; simp
theorem colN_nil : ∀ k, colN [] k = 0
  | 0 => rfl
  | k + 1 => by rw [colN, if_neg (by simp), colN_nil k]
theorem GcR_all {L : List (List UInt8)} {w : Nat} : GcR L w L.length 0 = fun i => ((colN (L.getD i []) w : Nat) : Int) := by
  funext j
  unfold GcR
  by_cases h1 : j < L.length
  · rw [if_pos h1]
  · rw [if_neg h1, List.getD_eq_getElem?_getD, List.getElem?_eq_none (by omega)]
    show _ = ((colN [] w : Nat) : Int)
    rw [colN_nil]; split <;> rfl
theorem sx_map (M : List (List UInt8)) (i : Nat) : sx (M.map bsOf) i = bsOf (M.getD i []) := by
  unfold sx
  rw [List.getD_eq_getElem?_getD, List.getElem?_map, List.getD_eq_getElem?_getD]
  cases M[i]? <;> rfl
theorem rb_succ {x : List UInt8} {k : Nat} (h : ∀ j, j < k → x.getD j 0 = 114 ∨ x.getD j 0 = 98) (h2 : x.getD k 0 = 114 ∨ x.getD k 0 = 98) : ∀ j, j < k + 1 → x.getD j 0 = 114 ∨ x.getD j 0 = 98 := fun j hj => by
  by_cases e : j = k
  · subst e; exact h2
  · exact h j (by omega)
theorem rb_yes {x : List UInt8} (h : ∀ j, j < x.length → x.getD j 0 = 114 ∨ x.getD j 0 = 98) : rbB x = true := by
  unfold rbB
  rw [List.all_eq_true]
  intro b hb
  obtain ⟨j, hj⟩ := List.getElem?_of_mem hb
  have hl := (List.getElem?_eq_some_iff.1 hj).1
  have := h j hl
  rw [List.getD_eq_getElem?_getD, hj] at this
  simpa using this
theorem rb_no {x : List UInt8} {j : Nat} (hj : j < x.length) (h1 : ¬ x.getD j 0 = 114) (h2 : ¬ x.getD j 0 = 98) : rbB x = false := by
  cases h : rbB x with
  | false => rfl
  | true =>
    unfold rbB at h
    rw [List.all_eq_true] at h
    have hm : x.getD j 0 ∈ x := by rw [List.getD_eq_getElem?_getD, List.getElem?_eq_getElem hj]; exact List.getElem_mem hj
    have := h _ hm
    simp at this
    rcases this with e | e
    · exact absurd e (by simpa using h1)
    · exact absurd e (by simpa using h2)
theorem byteIs {x : List UInt8} {k : Nat} (c : Nat) (hc : c < 256) : (byteAt (bsOf x) k == (c : Int)) = decide (x.getD k 0 = UInt8.ofNat c) := by
  rw [byteAt_bs, Bool.eq_iff_iff]
  simp only [beq_iff_eq, decide_eq_true_eq]
  have e : (UInt8.ofNat c).toNat = c := by simp [UInt8.toNat_ofNat']; omega
  constructor
  · intro h; exact UInt8.toNat_inj.1 (by omega)
  · intro h; rw [h]; omega
end Go.V
namespace Go.Proofs.YtdbhfobnmlogeaaDoor
open Go.V
theorem linesOf_sat (l : List UInt8) (hl : l.length ≤ 1048576) : Sat Tryd.prog 57 [.v (.string (bsOf l))] (.tup [strsD true ((rcL l).map bsOf), .v (.bool (Lib.hasSuffix l [10]))]) := by
  have htl : (Lib.trimSuffix l [10]).length ≤ 1048576 := by unfold Lib.trimSuffix; split <;> first | (rw [List.length_take]; omega) | omega
  refine sat_of_wp hMix tOk Tryd.func57 rfl rfl Tryd.ntmps57 rfl rfl Tryd.results57 (by kernel_rfl) ?_
  conv => whnf
  repeat (first | (refine go_F5 ?_; conv => whnf) | (refine lk_F5 ?_; conv => whnf))
  first | refine ⟨_, _, rfl, sc_F5 (cutSuffix_sat l hl 10), ?_⟩ | refine .inl ⟨_, _, rfl, sc_F5 (cutSuffix_sat l hl 10), ?_⟩
  conv => whnf
  repeat (first | (refine go_F5 ?_; conv => whnf) | (refine lk_F5 ?_; conv => whnf))
  first | refine ⟨_, _, rfl, sc_F5 (split_sat (Lib.trimSuffix l [10]) htl 10), ?_⟩ | refine .inl ⟨_, _, rfl, sc_F5 (split_sat (Lib.trimSuffix l [10]) htl 10), ?_⟩
  conv => whnf
  repeat (first | (refine go_F5 ?_; conv => whnf) | (refine lk_F5 ?_; conv => whnf))
  first | refine ⟨rfl, _, rfl, ?_⟩ | refine ⟨_, rfl, ?_⟩
  rfl
theorem specReadColours_sat (r : Roof) (hr : r.In) (l : List UInt8) (hl : l.length ≤ 1048576) : Sat Tryd.prog 11 [roofD r, .v (.string (bsOf l))] (rcV r l) := by
  have hz : (splice (List.replicate 8 (Value.int .u8 0)) 0 (List.replicate 8 (.int .u8 0))) = List.replicate 8 (.int .u8 0) := splice_all (by simp)
  have bad : ∀ x : Int, D.tup [row8D fun _ => 0, .v (.int .i64 x)] = one' [D.v (.agg ⟨(((splice (List.replicate 8 (Value.int .u8 0)) 0 (List.replicate 8 (.int .u8 0))).drop 0).take 8)⟩), .v (.int .i64 x)] := fun x => by
    rw [hz, take_drop0 (by simp)]; unfold row8D; rw [row8_zero]; rfl
  refine sat_of_wp hMix tOk Tryd.func11 rfl rfl Tryd.ntmps11 rfl rfl Tryd.results11 (by kernel_rfl) ?_
  conv => whnf
  repeat (first | (refine go_F5 ?_; conv => whnf) | (refine lk_F5 ?_; conv => whnf))
  first | refine ⟨_, _, rfl, sc_F5 (l01Ok_sat r hr), ?_⟩ | refine .inl ⟨_, _, rfl, sc_F5 (l01Ok_sat r hr), ?_⟩
  conv => whnf
  repeat (first | (refine go_F5 ?_; conv => whnf) | (refine lk_F5 ?_; conv => whnf))
  cases hR : okR r
  · conv => whnf
    repeat (first | (refine go_F5 ?_; conv => whnf) | (refine lk_F5 ?_; conv => whnf))
    first | refine ⟨rfl, _, rfl, ?_⟩ | refine ⟨_, rfl, ?_⟩
    skip
    rw [rcV_bad hR]; exact bad 1
  have hb := okR_bounds hR
  have hne := spl_ne 10 l
  have hMl : 1 ≤ (spl 10 l).length := List.length_pos_iff.2 hne
  have hMs : (spl 10 l).length ≤ 1048577 := by rw [spl_len, Lib.count_one]; have := List.count_le_length (a := (10 : UInt8)) (l := l); omega
  obtain ⟨K, hK⟩ : ∃ K : Nat, K = (spl 10 l).length - 1 := ⟨_, rfl⟩
  have e0 : IntKind.i64.wrap (((List.map bsOf (spl 10 l)).length : Int) - 1) = (K : Int) := by rw [List.length_map, w64 (by omega) (by omega)]; omega
  have hlast : sx ((spl 10 l).map bsOf) K = bsOf ((spl 10 l).getD K []) := sx_map _ _
  have eH : IntKind.i64.wrap r.h = r.h := w64 (by omega) (by omega)
  conv => whnf
  repeat (first | (refine go_F5 ?_; conv => whnf) | (refine lk_F5 ?_; conv => whnf))
  first | refine ⟨_, _, rfl, sc_F5 (l01Split_sat l hl 10), ?_⟩ | refine .inl ⟨_, _, rfl, sc_F5 (l01Split_sat l hl 10), ?_⟩
  conv => whnf
  repeat (first | (refine go_F5 ?_; conv => whnf) | (refine lk_F5 ?_; conv => whnf))
  rw [e0]
  refine ⟨⟨by omega, by rw [List.length_map]; omega⟩, ?_⟩
  conv => whnf
  refine optK_of (strA (by rw [List.length_map]; omega)) ?_
  rw [hlast]
  by_cases hE : (spl 10 l).getD K [] = []
  case neg =>
    have hno : rcOk r l = false := by
      cases h2 : rcOk r l with
      | false => rfl
      | true =>
        have h3 := rc_lines (rcOk_suf h2).1
        rw [h3] at hE hK
        exact absurd (by rw [hK]; simp) hE
    rw [rcV_no hR hno]
    conv => whnf
    rw [show (!((bsOf ((spl 10 l).getD K [])).toList == (⟨#[]⟩ : ByteArray).toList)) = true by rw [bs_toList, show (⟨#[]⟩ : ByteArray).toList = [] from bs_toList []]; simpa using hE]
    conv => whnf
    repeat (first | (refine go_F5 ?_; conv => whnf) | (refine lk_F5 ?_; conv => whnf))
    first | refine ⟨rfl, _, rfl, ?_⟩ | refine ⟨_, rfl, ?_⟩
    skip
    exact bad 5
  conv => whnf
  rw [show (!((bsOf ((spl 10 l).getD K [])).toList == (⟨#[]⟩ : ByteArray).toList)) = false by rw [bs_toList, show (⟨#[]⟩ : ByteArray).toList = [] from bs_toList [], hE]; rfl]
  conv => whnf
  repeat (first | (refine go_F5 ?_; conv => whnf) | (refine lk_F5 ?_; conv => whnf))
  rw [eH]
  cases h2 : ((K : Int) != r.h)
  case true =>
    have hno : rcOk r l = false := by
      cases h3 : rcOk r l with
      | false => rfl
      | true =>
        have h4 := rc_lines (rcOk_suf h3).1
        have h5 := (rcOk_suf h3).2
        have h6 := congrArg List.length h4
        simp at h6 h2
        omega
    rw [rcV_no hR hno]
    conv => whnf
    repeat (first | (refine go_F5 ?_; conv => whnf) | (refine lk_F5 ?_; conv => whnf))
    first | refine ⟨rfl, _, rfl, ?_⟩ | refine ⟨_, rfl, ?_⟩
    skip
    exact bad 5
  have hKh : (K : Int) = r.h := by simpa using h2
  have hsuf := rc_first hb (by rw [← hK]; exact hE) (by rw [← hK]; exact hKh)
  have hM := rc_lines hsuf
  have hLl : (rcL l).length = K := by rw [hK, hM]; simp
  have hget : ∀ i, i < K → sx ((spl 10 l).map bsOf) i = bsOf ((rcL l).getD i []) := fun i hi => by
    rw [sx_map, hM, List.getD_eq_getElem?_getD, List.getElem?_append_left (by omega), ← List.getD_eq_getElem?_getD]
  have hlenM : (List.map bsOf (spl 10 l)).length = K + 1 := by rw [List.length_map]; omega
  have eW : IntKind.i64.wrap r.w = r.w := w64 (by omega) (by omega)
  generalize hws : (spl 10 l).map bsOf = ws at *
  generalize hLL : rcL l = L at *
  conv => whnf
  repeat (first | (refine go_F5 ?_; conv => whnf) | (refine lk_F5 ?_; conv => whnf))
  refine loop_rule (α := Nat) (fun i => [(2, .ptr (2, 0, 0) 0), (4, .ptr (4, 0, 0) 0), (6, .slc true 1 (15, 0, 0) 0 ws.length), (7, .v (.int .i64 (K : Int))), (8, .ptr (8, 0, 0) 0), (9, .v (.int .i64 i))]) (fun i => [((2, 0, 0), roofD r), ((4, 0, 0), .v (.agg ⟨List.replicate 8 (.int .u8 0)⟩)), ((8, 0, 0), row8D (GcR L r.w.toNat i 0)), ((15, 0, 0), .v (.agg ⟨strsC ws⟩))]) (fun i => i ≤ K ∧ ∀ j, j < i → lnB r.w (L.getD j []) = true) (fun i => K - i) (0) ?_ (sim_of (rn := [((2, 0, 0), (2, 0, 0)), ((4, 0, 0), (4, 0, 0)), ((8, 0, 0), (8, 0, 0)), ((15, 0, 0), (15, 0, 0))]) rfl ?_ ?_) ?_
  · exact ⟨by omega, fun j hj => by omega⟩
  · exact hold_F5
  · ((repeat' (first | exact trivial | apply And.intro)) <;> ((first | refine ⟨_, _, rfl, rfl, ?_⟩ ); first | rfl | (exact cset (by rw [GcR_zero, row8_zero]; first | rfl | exact hz.symm | exact hz))))
  rintro i ⟨hi, hall⟩
  conv => whnf
  repeat (first | (refine go_F5 ?_; conv => whnf) | (refine lk_F5 ?_; conv => whnf))
  cases h4 : decide ((i : Int) < (K : Int))
  · have hiK : i = K := by simp at h4; omega
    subst hiK
    have hyes : rcOk r l = true := rcOk_yes hsuf (by rw [hLL]; omega) (by rw [hLL]; exact fun j hj => hall j (by omega))
    rw [rcV_yes hR hyes, hLL, ← GcR_all, hLl]
    conv => whnf
    repeat (first | (refine go_F5 ?_; conv => whnf) | (refine lk_F5 ?_; conv => whnf))
    first | refine ⟨rfl, _, rfl, ?_⟩ | refine ⟨_, rfl, ?_⟩
    skip
    exact congrArg (fun z => D.tup [D.v (.agg ⟨z⟩), .v (.int .i64 0)]) (copied (n := 8) (by simp) (by simp)).symm
  have hiK : i < K := by simpa using h4
  have hi8 : i < 8 := by omega
  have hgi : sx ws ((i : Int).toNat * ti9.size) = bsOf (L.getD i []) := by
    show sx ws ((i : Int).toNat * 1) = _
    rw [show (i : Int).toNat * 1 = i by omega]; exact hget i hiK
  have hnoi : lnB r.w (L.getD i []) = false → rcOk r l = false := fun h => rcOk_no (i := i) (by rw [hLL]; omega) (by rw [hLL]; exact h)
  have nxt := fun h => (⟨by omega, below_succ (p := fun j => lnB r.w (L.getD j []) = true) hall h⟩ : i + 1 ≤ K ∧ ∀ j, j < i + 1 → lnB r.w (L.getD j []) = true)
  have hstep := GcR_next L r.w.toNat i
  have hset := GcR_set L r.w.toNat i
  have hat := GcR_at L r.w.toNat i
  generalize hxx : L.getD i [] = x at *
  conv => whnf
  repeat (first | (refine go_F5 ?_; conv => whnf) | (refine lk_F5 ?_; conv => whnf))
  rw [hgi, eW]
  cases h5 : (((bsOf x).size : Int) != r.w)
  case true =>
    rw [rcV_no hR (hnoi (by unfold lnB; rw [show decide ((x.length : Int) = r.w) = false by simpa using h5]; rfl))]
    conv => whnf
    repeat (first | (refine go_F5 ?_; conv => whnf) | (refine lk_F5 ?_; conv => whnf))
    first | refine ⟨rfl, _, rfl, ?_⟩ | refine ⟨_, rfl, ?_⟩
    skip
    exact bad 5
  have hxw : (x.length : Int) = r.w := by simpa using h5
  have hw8 : r.w.toNat = x.length := by omega
  rw [hw8] at hstep hset hat
  conv => whnf
  repeat (first | (refine go_F5 ?_; conv => whnf) | (refine lk_F5 ?_; conv => whnf))
  refine loop_rule (α := Nat) (fun k => [(2, .ptr (2, 0, 0) 0), (4, .ptr (4, 0, 0) 0), (6, .slc true 1 (15, 0, 0) 0 ws.length), (7, .v (.int .i64 (K : Int))), (8, .ptr (8, 0, 0) 0), (9, .v (.int .i64 i)), (10, .v (.int .i64 k))]) (fun k => [((2, 0, 0), roofD r), ((4, 0, 0), .v (.agg ⟨List.replicate 8 (.int .u8 0)⟩)), ((8, 0, 0), row8D (GcR L x.length i (colN x k))), ((15, 0, 0), .v (.agg ⟨strsC ws⟩))]) (fun k => k ≤ x.length ∧ ∀ j, j < k → x.getD j 0 = 114 ∨ x.getD j 0 = 98) (fun k => x.length - k) (0) ?_ (sim_of (rn := [((2, 0, 0), (2, 0, 0)), ((4, 0, 0), (4, 0, 0)), ((8, 0, 0), (8, 0, 0)), ((15, 0, 0), (15, 0, 0))]) rfl ?_ ?_) ?_
  · exact ⟨by omega, fun j hj => by omega⟩
  · exact hold_F5
  · ((repeat' (first | exact trivial | apply And.intro)) <;> ((first | refine ⟨_, _, rfl, rfl, ?_⟩ ); first | rfl | (first | rfl | (rw [hw8]; rfl))))
  rintro k ⟨hk, hall2⟩
  conv => whnf
  repeat (first | (refine go_F5 ?_; conv => whnf) | (refine lk_F5 ?_; conv => whnf))
  rw [hgi]
  cases h6 : decide ((k : Int) < ((bsOf x).size : Int))
  · have hkx : k = x.length := by simp at h6; omega
    subst hkx
    rw [hstep]
    conv => whnf
    repeat (first | (refine go_F5 ?_; conv => whnf) | (refine lk_F5 ?_; conv => whnf))
    refine ⟨i + 1, ?_, ?_, sim_of (rn := [((2, 0, 0), (2, 0, 0)), ((4, 0, 0), (4, 0, 0)), ((8, 0, 0), (8, 0, 0)), ((15, 0, 0), (15, 0, 0))]) rfl ?_ ?_⟩
    · (dsimp only; omega)
    · exact nxt (by unfold lnB; rw [rb_yes hall2, decide_eq_true hxw]; rfl)
    · exact hold_F5
    · ((repeat' (first | exact trivial | apply And.intro)) <;> ((first | refine ⟨_, _, rfl, rfl, ?_⟩ ); first | rfl | (first | rfl | (rw [hw8]; rfl))))
  have hkx : k < x.length := by simpa using h6
  have hk8 : k < 8 := by omega
  conv => whnf
  repeat (first | (refine go_F5 ?_; conv => whnf) | (refine lk_F5 ?_; conv => whnf))
  rw [hgi]
  refine ⟨⟨by omega, by rw [bs_size]; omega⟩, ?_⟩
  conv => whnf
  have hB1 : (byteAt (bsOf x) k == 114) = decide (x.getD k 0 = 114) := byteIs 114 (by omega)
  have hB2 : (byteAt (bsOf x) k == 98) = decide (x.getD k 0 = 98) := byteIs 98 (by omega)
  rw [show byteAt (bsOf x) (k : Int).toNat = byteAt (bsOf x) k by rw [Int.toNat_natCast], hB1]
  cases h7 : decide (x.getD k 0 = 114)
  · have hn1 : ¬ x.getD k 0 = 114 := by simpa using h7
    conv => whnf
    repeat (first | (refine go_F5 ?_; conv => whnf) | (refine lk_F5 ?_; conv => whnf))
    rw [hB2]
    cases h8 : decide (x.getD k 0 = 98)
    · have hn2 : ¬ x.getD k 0 = 98 := by simpa using h8
      rw [rcV_no hR (hnoi (by unfold lnB; rw [rb_no hkx hn1 hn2, Bool.and_false]))]
      conv => whnf
      repeat (first | (refine go_F5 ?_; conv => whnf) | (refine lk_F5 ?_; conv => whnf))
      first | refine ⟨rfl, _, rfl, ?_⟩ | refine ⟨_, rfl, ?_⟩
      skip
      exact bad 5
    · have hn2 : x.getD k 0 = 98 := by simpa using h8
      have ek : colN x (k + 1) = colN x k := by rw [colN, if_neg hn1]
      conv => whnf
      repeat (first | (refine go_F5 ?_; conv => whnf) | (refine lk_F5 ?_; conv => whnf))
      refine ⟨k + 1, ?_, ?_, sim_of (rn := [((2, 0, 0), (2, 0, 0)), ((4, 0, 0), (4, 0, 0)), ((8, 0, 0), (8, 0, 0)), ((15, 0, 0), (15, 0, 0))]) rfl ?_ ?_⟩
      · (dsimp only; omega)
      · exact ⟨by omega, rb_succ hall2 (.inr hn2)⟩
      · exact hold_F5
      · ((repeat' (first | exact trivial | apply And.intro)) <;> ((first | refine ⟨_, _, rfl, rfl, ?_⟩ ); first | rfl | ((rw [ek]; rfl))))
  · have hy : x.getD k 0 = 114 := by simpa using h7
    have hor := colN_or hk8 hy
    conv => whnf
    repeat (first | (refine go_F5 ?_; conv => whnf) | (refine lk_F5 ?_; conv => whnf))
    refine optK_of (row8_get (k := i) (by show 0 + (i : Int).toNat * 1 = i; omega) hi8) ?_
    rw [hat]
    conv => whnf
    repeat (first | (refine go_F5 ?_; conv => whnf) | (refine lk_F5 ?_; conv => whnf))
    rw [show IntKind.u64.wrap (k : Int) = k from wu64 (by omega) (by omega)]
    conv => whnf
    repeat (first | (refine go_F5 ?_; conv => whnf) | (refine lk_F5 ?_; conv => whnf))
    have setA : (row8 (GcR L x.length i (colN x k))).set (0 + (i : Int).toNat * 1) (.int .u8 (orU8 ((colN x k : Nat) : Int) (IntKind.u8.wrap (1 * 2 ^ (min (k : Int).toNat IntKind.u8.bits))))) = row8 (GcR L x.length i (colN x (k + 1))) := by
      rw [show 0 + (i : Int).toNat * 1 = i by omega, Int.toNat_natCast, hor, hset]
    refine ⟨k + 1, ?_, ?_, sim_of (rn := [((2, 0, 0), (2, 0, 0)), ((4, 0, 0), (4, 0, 0)), ((8, 0, 0), (8, 0, 0)), ((15, 0, 0), (15, 0, 0))]) rfl ?_ ?_⟩
    · (dsimp only; omega)
    · exact ⟨by omega, rb_succ hall2 (.inl hy)⟩
    · exact hold_F5
    · ((repeat' (first | exact trivial | apply And.intro)) <;> ((first | refine ⟨_, _, rfl, rfl, ?_⟩ ); first | rfl | (exact cset setA)))
theorem implReadColours_sat (r : Roof) (hr : r.In) (l : List UInt8) (hl : l.length ≤ 1048576) : Sat Tryd.prog 13 [roofD r, .v (.string (bsOf l))] (rcV r l) := by
  have hz : (splice (List.replicate 8 (Value.int .u8 0)) 0 (List.replicate 8 (.int .u8 0))) = List.replicate 8 (.int .u8 0) := splice_all (by simp)
  have bad : ∀ x : Int, D.tup [row8D fun _ => 0, .v (.int .i64 x)] = one' [D.v (.agg ⟨(((splice (List.replicate 8 (Value.int .u8 0)) 0 (List.replicate 8 (.int .u8 0))).drop 0).take 8)⟩), .v (.int .i64 x)] := fun x => by
    rw [hz, take_drop0 (by simp)]; unfold row8D; rw [row8_zero]; rfl
  refine sat_of_wp hMix tOk Tryd.func13 rfl rfl Tryd.ntmps13 rfl rfl Tryd.results13 (by kernel_rfl) ?_
  conv => whnf
  repeat (first | (refine go_F5 ?_; conv => whnf) | (refine lk_F5 ?_; conv => whnf))
  first | refine ⟨_, _, rfl, sc_F5 (validRoof_sat r hr), ?_⟩ | refine .inl ⟨_, _, rfl, sc_F5 (validRoof_sat r hr), ?_⟩
  conv => whnf
  repeat (first | (refine go_F5 ?_; conv => whnf) | (refine lk_F5 ?_; conv => whnf))
  cases hR : okR r
  · conv => whnf
    repeat (first | (refine go_F5 ?_; conv => whnf) | (refine lk_F5 ?_; conv => whnf))
    first | refine ⟨rfl, _, rfl, ?_⟩ | refine ⟨_, rfl, ?_⟩
    skip
    rw [rcV_bad hR]; exact bad 1
  have hb := okR_bounds hR
  have eH : IntKind.i64.wrap r.h = r.h := w64 (by omega) (by omega)
  have eW : IntKind.i64.wrap r.w = r.w := w64 (by omega) (by omega)
  have htl : (Lib.trimSuffix l [10]).length ≤ 1048576 := by unfold Lib.trimSuffix; split <;> first | (rw [List.length_take]; omega) | omega
  have hMs : (rcL l).length ≤ 1048577 := by unfold rcL; rw [spl_len, Lib.count_one]; have := List.count_le_length (a := (10 : UInt8)) (l := Lib.trimSuffix l [10]); omega
  conv => whnf
  repeat (first | (refine go_F5 ?_; conv => whnf) | (refine lk_F5 ?_; conv => whnf))
  first | refine ⟨_, _, rfl, sc_F5 (linesOf_sat l hl), ?_⟩ | refine .inl ⟨_, _, rfl, sc_F5 (linesOf_sat l hl), ?_⟩
  conv => whnf
  repeat (first | (refine go_F5 ?_; conv => whnf) | (refine lk_F5 ?_; conv => whnf))
  cases hsuf : Lib.hasSuffix l [10]
  · have hno : rcOk r l = false := by unfold rcOk; rw [hsuf]; rfl
    rw [rcV_no hR hno]
    conv => whnf
    repeat (first | (refine go_F5 ?_; conv => whnf) | (refine lk_F5 ?_; conv => whnf))
    first | refine ⟨rfl, _, rfl, ?_⟩ | refine ⟨_, rfl, ?_⟩
    skip
    exact bad 5
  conv => whnf
  repeat (first | (refine go_F5 ?_; conv => whnf) | (refine lk_F5 ?_; conv => whnf))
  rw [eH]
  cases h2 : (((List.map bsOf (rcL l)).length : Int) != r.h)
  case true =>
    have hno : rcOk r l = false := by
      cases h3 : rcOk r l with
      | false => rfl
      | true =>
        have h5 := (rcOk_suf h3).2
        rw [List.length_map] at h2
        simp at h2
        omega
    rw [rcV_no hR hno]
    conv => whnf
    repeat (first | (refine go_F5 ?_; conv => whnf) | (refine lk_F5 ?_; conv => whnf))
    first | refine ⟨rfl, _, rfl, ?_⟩ | refine ⟨_, rfl, ?_⟩
    skip
    exact bad 5
  have hLh : ((rcL l).length : Int) = r.h := by rw [List.length_map] at h2; simpa using h2
  have hget : ∀ i, sx ((rcL l).map bsOf) i = bsOf ((rcL l).getD i []) := fun i => sx_map _ _
  have hlenM : (List.map bsOf (rcL l)).length = (rcL l).length := by rw [List.length_map]
  generalize hws : (rcL l).map bsOf = ws at *
  generalize hLL : rcL l = L at *
  conv => whnf
  repeat (first | (refine go_F5 ?_; conv => whnf) | (refine lk_F5 ?_; conv => whnf))
  refine loop_rule (α := Nat) (fun i => [(1, .v (.string (bsOf l))), (2, .ptr (2, 0, 0) 0), (4, .ptr (4, 0, 0) 0), (8, .ptr (8, 0, 0) 0), (32, .slc true 1 (18, 0, 0) 0 ws.length), (33, .v (.int .i64 ws.length)), (34, .v (.int .i64 i))]) (fun i => [((2, 0, 0), roofD r), ((4, 0, 0), .v (.agg ⟨List.replicate 8 (.int .u8 0)⟩)), ((8, 0, 0), row8D (GcR L r.w.toNat i 0)), ((18, 0, 0), .v (.agg ⟨strsC ws⟩))]) (fun i => i ≤ L.length ∧ ∀ j, j < i → (L.getD j []).length = r.w.toNat) (fun i => L.length - i) (0) ?_ (sim_of (rn := [((2, 0, 0), (2, 0, 0)), ((4, 0, 0), (4, 0, 0)), ((8, 0, 0), (8, 0, 0)), ((18, 0, 0), (18, 0, 0))]) rfl ?_ ?_) ?_
  · exact ⟨by omega, fun j hj => by omega⟩
  · exact hold_F5
  · ((repeat' (first | exact trivial | apply And.intro)) <;> ((first | refine ⟨_, _, rfl, rfl, ?_⟩ ); first | rfl | (exact cset (by rw [GcR_zero, row8_zero]))))
  rintro i ⟨hi, hall⟩
  conv => whnf
  repeat (first | (refine go_F5 ?_; conv => whnf) | (refine lk_F5 ?_; conv => whnf))
  cases h4 : decide ((i : Int) < (ws.length : Int))
  · have hiK : i = L.length := by simp at h4; omega
    subst hiK
    have hlen : ∀ x ∈ L, x.length = r.w.toNat := fun x hx => by
      obtain ⟨j, hj⟩ := List.getElem?_of_mem hx
      have hl := (List.getElem?_eq_some_iff.1 hj).1
      have := hall j hl
      rw [List.getD_eq_getElem?_getD, hj] at this
      exact this
    have hrow : RowIn (GcR L r.w.toNat L.length 0) := ⟨fun j => by
      rw [GcR_all]
      have := colN_in (L.getD j []) (k := r.w.toNat) (by omega)
      dsimp only
      omega⟩
    have htxt := txt_bs (L := L) (w := r.w.toNat) (by omega) hlen (f := GcR L r.w.toNat L.length 0) (fun j _ => by rw [GcR_all]) L.length (Nat.le_refl _)
    rw [List.take_length] at htxt
    have sT := coloursText_sat r hr _ hrow hb
    rw [show r.h.toNat = L.length by omega, htxt] at sT
    have hcat : catL 10 L = l := by
      obtain ⟨o, ho⟩ := suffix_iff.1 hsuf
      rw [← hLL, ho, rcL_snoc, spl_cat]
    conv => whnf
    repeat (first | (refine go_F5 ?_; conv => whnf) | (refine lk_F5 ?_; conv => whnf))
    first | refine ⟨_, _, rfl, sc_F5 (sT), ?_⟩ | refine .inl ⟨_, _, rfl, sc_F5 (sT), ?_⟩
    conv => whnf
    repeat (first | (refine go_F5 ?_; conv => whnf) | (refine lk_F5 ?_; conv => whnf))
    by_cases hrb : ∀ x ∈ L, rbB x = true
    · have hyes : rcOk r l = true := rcOk_yes hsuf (by rw [hLL]; exact hLh) (by
        rw [hLL]
        intro j hj
        unfold lnB
        have h1 := hall j hj
        have h2 := hrb (L.getD j []) (by rw [List.getD_eq_getElem?_getD, List.getElem?_eq_getElem hj]; exact List.getElem_mem hj)
        rw [h2, decide_eq_true (by omega)]; rfl)
      have heq : L.map nrm = L := by
        conv => rhs; rw [← List.map_id L]
        exact List.map_congr_left fun x hx => nrm_eq.2 (hrb x hx)
      rw [heq, hcat, show (!((bsOf l).toList == (bsOf l).toList)) = false by simp]
      rw [rcV_yes hR hyes, hLL, ← GcR_all]
      conv => whnf
      repeat (first | (refine go_F5 ?_; conv => whnf) | (refine lk_F5 ?_; conv => whnf))
      first | refine ⟨rfl, _, rfl, ?_⟩ | refine ⟨_, rfl, ?_⟩
      skip
      exact congrArg (fun z => D.tup [D.v (.agg ⟨z⟩), .v (.int .i64 0)]) (copied (n := 8) (by simp) (by simp)).symm
    · have hno : rcOk r l = false := by
        cases h3 : rcOk r l with
        | false => rfl
        | true =>
          refine absurd (fun x hx => ?_) hrb
          obtain ⟨j, hj⟩ := List.getElem?_of_mem hx
          have hl := (List.getElem?_eq_some_iff.1 hj).1
          have := rcOk_ln h3 (i := j) (by rw [hLL]; exact hl)
          rw [hLL, List.getD_eq_getElem?_getD, hj] at this
          unfold lnB at this
          rw [Bool.and_eq_true] at this
          exact this.2
      have hneq : ¬ catL 10 (L.map nrm) = l := fun h => by
        rw [← hcat] at h
        have h5 := cat_inj (by rw [List.map_map]; exact List.map_congr_left fun x _ => by simp [nrm]) h
        refine hrb fun x hx => nrm_eq.1 ?_
        obtain ⟨j, hj⟩ := List.getElem?_of_mem hx
        have h6 : (L.map nrm)[j]? = L[j]? := by rw [h5]
        rw [List.getElem?_map, hj] at h6
        simpa using h6
      rw [show (!((bsOf (catL 10 (L.map nrm))).toList == (bsOf l).toList)) = true by rw [bs_toList, bs_toList]; simpa using hneq]
      rw [rcV_no hR hno]
      conv => whnf
      repeat (first | (refine go_F5 ?_; conv => whnf) | (refine lk_F5 ?_; conv => whnf))
      first | refine ⟨rfl, _, rfl, ?_⟩ | refine ⟨_, rfl, ?_⟩
      skip
      exact bad 5
  have hiK : i < L.length := by simp at h4; omega
  have hi8 : i < 8 := by omega
  have hgi : sx ws ((i : Int).toNat * ti9.size) = bsOf (L.getD i []) := by
    show sx ws ((i : Int).toNat * 1) = _
    rw [show (i : Int).toNat * 1 = i by omega]; exact hget i
  have hnoi : lnB r.w (L.getD i []) = false → rcOk r l = false := fun h => rcOk_no (i := i) (by rw [hLL]; omega) (by rw [hLL]; exact h)
  have nxt := fun h => (⟨by omega, below_succ (p := fun j => (L.getD j []).length = r.w.toNat) hall h⟩ : i + 1 ≤ L.length ∧ ∀ j, j < i + 1 → (L.getD j []).length = r.w.toNat)
  have hstep := GcR_next L r.w.toNat i
  have hset := GcR_set L r.w.toNat i
  have hat := GcR_at L r.w.toNat i
  generalize hxx : L.getD i [] = x at *
  conv => whnf
  repeat (first | (refine go_F5 ?_; conv => whnf) | (refine lk_F5 ?_; conv => whnf))
  rw [hgi, eW]
  cases h5 : (((bsOf x).size : Int) != r.w)
  case true =>
    rw [rcV_no hR (hnoi (by unfold lnB; rw [show decide ((x.length : Int) = r.w) = false by simpa using h5]; rfl))]
    conv => whnf
    repeat (first | (refine go_F5 ?_; conv => whnf) | (refine lk_F5 ?_; conv => whnf))
    first | refine ⟨rfl, _, rfl, ?_⟩ | refine ⟨_, rfl, ?_⟩
    skip
    exact bad 5
  have hxw : (x.length : Int) = r.w := by simpa using h5
  have hw8 : r.w.toNat = x.length := by omega
  rw [hw8] at hstep hset hat
  conv => whnf
  repeat (first | (refine go_F5 ?_; conv => whnf) | (refine lk_F5 ?_; conv => whnf))
  refine loop_rule (α := Nat) (fun k => [(1, .v (.string (bsOf l))), (2, .ptr (2, 0, 0) 0), (4, .ptr (4, 0, 0) 0), (8, .ptr (8, 0, 0) 0), (9, .v (.int .i64 i)), (10, .v (.string (bsOf x))), (32, .slc true 1 (18, 0, 0) 0 ws.length), (33, .v (.int .i64 ws.length)), (34, .v (.int .i64 i)), (47, .v (.int .i64 x.length)), (48, .v (.int .i64 k))]) (fun k => [((2, 0, 0), roofD r), ((4, 0, 0), .v (.agg ⟨List.replicate 8 (.int .u8 0)⟩)), ((8, 0, 0), row8D (GcR L x.length i (colN x k))), ((18, 0, 0), .v (.agg ⟨strsC ws⟩))]) (fun k => k ≤ x.length) (fun k => x.length - k) (0) ?_ (sim_of (rn := [((2, 0, 0), (2, 0, 0)), ((4, 0, 0), (4, 0, 0)), ((8, 0, 0), (8, 0, 0)), ((18, 0, 0), (18, 0, 0))]) rfl ?_ ?_) ?_
  · exact okt_F5
  · exact hold_F5
  · ((repeat' (first | exact trivial | apply And.intro)) <;> ((first | refine ⟨_, _, rfl, rfl, ?_⟩ ); first | rfl | (first | rfl | (rw [hw8]; rfl))))
  intro k hk
  conv => whnf
  repeat (first | (refine go_F5 ?_; conv => whnf) | (refine lk_F5 ?_; conv => whnf))
  cases h6 : decide ((k : Int) < (x.length : Int))
  · have hkx : k = x.length := by simp at h6; omega
    subst hkx
    rw [hstep]
    conv => whnf
    repeat (first | (refine go_F5 ?_; conv => whnf) | (refine lk_F5 ?_; conv => whnf))
    refine ⟨i + 1, ?_, ?_, sim_of (rn := [((2, 0, 0), (2, 0, 0)), ((4, 0, 0), (4, 0, 0)), ((8, 0, 0), (8, 0, 0)), ((18, 0, 0), (18, 0, 0))]) rfl ?_ ?_⟩
    · (dsimp only; omega)
    · exact nxt hw8.symm
    · exact hold_F5
    · ((repeat' (first | exact trivial | apply And.intro)) <;> ((first | refine ⟨_, _, rfl, rfl, ?_⟩ ); first | rfl | (first | rfl | (rw [hw8]; rfl))))
  have hkx : k < x.length := by simpa using h6
  have hk8 : k < 8 := by omega
  conv => whnf
  repeat (first | (refine go_F5 ?_; conv => whnf) | (refine lk_F5 ?_; conv => whnf))
  have hB1 : (byteAt (bsOf x) k == 114) = decide (x.getD k 0 = 114) := byteIs 114 (by omega)
  rw [show byteAt (bsOf x) (k : Int).toNat = byteAt (bsOf x) k by rw [Int.toNat_natCast], hB1]
  cases h7 : decide (x.getD k 0 = 114)
  · have hn1 : ¬ x.getD k 0 = 114 := by simpa using h7
    have ek : colN x (k + 1) = colN x k := by rw [colN, if_neg hn1]
    conv => whnf
    repeat (first | (refine go_F5 ?_; conv => whnf) | (refine lk_F5 ?_; conv => whnf))
    refine ⟨k + 1, ?_, ?_, sim_of (rn := [((2, 0, 0), (2, 0, 0)), ((4, 0, 0), (4, 0, 0)), ((8, 0, 0), (8, 0, 0)), ((18, 0, 0), (18, 0, 0))]) rfl ?_ ?_⟩
    · (dsimp only; omega)
    · exact okt_F5
    · exact hold_F5
    · ((repeat' (first | exact trivial | apply And.intro)) <;> ((first | refine ⟨_, _, rfl, rfl, ?_⟩ ); first | rfl | ((rw [ek]; rfl))))
  · have hy : x.getD k 0 = 114 := by simpa using h7
    have hor := colN_or hk8 hy
    conv => whnf
    repeat (first | (refine go_F5 ?_; conv => whnf) | (refine lk_F5 ?_; conv => whnf))
    refine optK_of (row8_get (k := i) (by show 0 + (i : Int).toNat * 1 = i; omega) hi8) ?_
    rw [hat]
    conv => whnf
    repeat (first | (refine go_F5 ?_; conv => whnf) | (refine lk_F5 ?_; conv => whnf))
    have setA : (row8 (GcR L x.length i (colN x k))).set (0 + (i : Int).toNat * 1) (.int .u8 (orU8 ((colN x k : Nat) : Int) (IntKind.u8.wrap (1 * 2 ^ (min (k : Int).toNat IntKind.u8.bits))))) = row8 (GcR L x.length i (colN x (k + 1))) := by
      rw [show 0 + (i : Int).toNat * 1 = i by omega, Int.toNat_natCast, hor, hset]
    refine ⟨k + 1, ?_, ?_, sim_of (rn := [((2, 0, 0), (2, 0, 0)), ((4, 0, 0), (4, 0, 0)), ((8, 0, 0), (8, 0, 0)), ((18, 0, 0), (18, 0, 0))]) rfl ?_ ?_⟩
    · (dsimp only; omega)
    · exact okt_F5
    · exact hold_F5
    · ((repeat' (first | exact trivial | apply And.intro)) <;> ((first | refine ⟨_, _, rfl, rfl, ?_⟩ ); first | rfl | (exact cset setA)))
theorem fnExactReadColours_sat (r : Roof) (hr : r.In) (b : ByteArray) : Sat Tryd.prog 3 [roofD r, .v (.string b)] (.v (.bool true)) := by
  rw [bs_of b]
  generalize b.data.toList = l
  refine sat_of_wp hMix tOk Tryd.func3 rfl rfl Tryd.ntmps3 rfl rfl Tryd.results3 (by kernel_rfl) ?_
  conv => whnf
  repeat (first | (refine go_F5 ?_; conv => whnf) | (refine lk_F5 ?_; conv => whnf))
  cases hlong : decide (((bsOf l).size : Int) > 1048576)
  case true =>
    conv => whnf
    repeat (first | (refine go_F5 ?_; conv => whnf) | (refine lk_F5 ?_; conv => whnf))
    first | refine ⟨rfl, _, rfl, ?_⟩ | refine ⟨_, rfl, ?_⟩
    rfl
  have hl : l.length ≤ 1048576 := by simp at hlong; omega
  have s1 := specReadColours_sat r hr l hl
  have s2 := implReadColours_sat r hr l hl
  unfold rcV at s1 s2
  have hne : (rcK r l != rcK r l) = false := by simp
  generalize rcF r l = f at s1 s2
  generalize rcK r l = K at s1 s2 hne
  conv => whnf
  repeat (first | (refine go_F5 ?_; conv => whnf) | (refine lk_F5 ?_; conv => whnf))
  first | refine ⟨_, _, rfl, sc_F5 (toRoof_sat r), ?_⟩ | refine .inl ⟨_, _, rfl, sc_F5 (toRoof_sat r), ?_⟩
  conv => whnf
  repeat (first | (refine go_F5 ?_; conv => whnf) | (refine lk_F5 ?_; conv => whnf))
  first | refine ⟨_, _, rfl, sc_F5 (s1), ?_⟩ | refine .inl ⟨_, _, rfl, sc_F5 (s1), ?_⟩
  conv => whnf
  repeat (first | (refine go_F5 ?_; conv => whnf) | (refine lk_F5 ?_; conv => whnf))
  first | refine ⟨_, _, rfl, sc_F5 (toRoof_sat r), ?_⟩ | refine .inl ⟨_, _, rfl, sc_F5 (toRoof_sat r), ?_⟩
  conv => whnf
  repeat (first | (refine go_F5 ?_; conv => whnf) | (refine lk_F5 ?_; conv => whnf))
  first | refine ⟨_, _, rfl, sc_F5 (s2), ?_⟩ | refine .inl ⟨_, _, rfl, sc_F5 (s2), ?_⟩
  conv => whnf
  repeat (first | (refine go_F5 ?_; conv => whnf) | (refine lk_F5 ?_; conv => whnf))
  first | refine ⟨_, _, rfl, sc_F5 (eqColours_same f), ?_⟩ | refine .inl ⟨_, _, rfl, sc_F5 (eqColours_same f), ?_⟩
  conv => whnf
  repeat (first | (refine go_F5 ?_; conv => whnf) | (refine lk_F5 ?_; conv => whnf))
  rw [hne]
  conv => whnf
  repeat (first | (refine go_F5 ?_; conv => whnf) | (refine lk_F5 ?_; conv => whnf))
  first | refine ⟨rfl, _, rfl, ?_⟩ | refine ⟨_, rfl, ?_⟩
  rfl
end Go.Proofs.YtdbhfobnmlogeaaDoor
