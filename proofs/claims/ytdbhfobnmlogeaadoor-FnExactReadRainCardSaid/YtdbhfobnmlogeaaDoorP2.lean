import Derived.Test.YtdbhfobnmlogeaaDoorP1
/- Numbers and rain read from their texts: plain words, both sides, and the law on rain. -/
set_option linter.unusedVariables false
set_option linter.unusedSimpArgs false
namespace Go.V
/- Words for the walks of this text: their default arguments are tried where they are used. -/
theorem go_F8 {P Q : Prop} (k : Q) (h : P := by first | exact strOk (by first | omega | (simp; omega)) | exact Nat.le_of_ble_eq_true rfl | exact rfl | decide | omega | (simp [splice]; done) | (constructor <;> omega) | (simp [splice]; omega)) : P ∧ Q := ⟨h, k⟩
theorem lk_F8 {α : Type} {o : Option α} {K : α → Prop} {x : α} (k : K x) (h : o = some x := by first | exact strA (by simp; omega) | exact strA' (by simp; omega) | exact raiA (by omega) | exact raiA' (by omega) | exact roofN (by omega) (by omega)) : optK o K := optK_of h k
theorem sc_F8 {P : Program} {g : FuncId} {args args' : List D} {res : D} (h : Sat P g args res) (e : args' = args := by repeat (first | rfl | exact vfull (by first | (simp [splice]; done) | (simp [splice]; omega)) | exact rfull (by first | (simp [splice]; done) | (simp [splice]; omega)) | exact vsplice (by simp) (by simp) | refine ceq ?_ ?_ | refine Eq.trans (vsplice (by first | (simp; done) | (simp; omega)) (by first | (simp; done) | (simp; omega))) ?_)) : Sat P g args' res := Sat.of_eq h e
theorem leaf_F8 {P : Prop} (h : P := by first | rfl | exact succ8 (by omega) | exact succ64 (by omega) | exact CapOk.fn (by assumption) _ _ | exact vintS (by omega) | exact vintS (by rw [w64 (by omega) (by omega)]; omega) | exact vintS (by rw [w8 (by omega) (by omega)]; omega) | exact vslcS (by omega) | exact vslcS (by simp)) : P := h
theorem hold_F8 {P : Prop} (h : P := by (repeat' (first | exact trivial | apply And.intro)) <;> (first | rfl | exact succ8 (by omega) | exact succ64 (by omega) | exact CapOk.fn (by assumption) _ _ | exact vintS (by omega) | exact vintS (by rw [w64 (by omega) (by omega)]; omega) | exact vintS (by rw [w8 (by omega) (by omega)]; omega) | exact vslcS (by omega) | exact vslcS (by simp))) : P := h
theorem okt_F8 {P : Prop} (h : P := by first | omega | (dsimp only; omega) | ((repeat' apply And.intro) <;> omega) | (dsimp only; (repeat' apply And.intro) <;> omega) | trivial) : P := h
end Go.V
namespace Go.V
/-! Numerals. -/
def isDg (b : UInt8) : Bool := decide (48 ≤ b.toNat) && decide (b.toNat ≤ 57)
def numV (l : List UInt8) : Nat := l.foldl (fun n b => 10 * n + (b.toNat - 48)) 0
theorem numV_snoc (l : List UInt8) (b : UInt8) : numV (l ++ [b]) = 10 * numV l + (b.toNat - 48) := by unfold numV; rw [List.foldl_append]; rfl
/-- A numeral as the reference takes it. -/
def nbB (l : List UInt8) : Bool := !l.isEmpty && decide (l.length ≤ 10) && !(l.getD 0 0 == 48 && decide (1 < l.length)) && l.all isDg
theorem dig_of {d : Nat} (h : d < 10) : (UInt8.ofNat (48 + d)).toNat = 48 + d := by simp [UInt8.toNat_ofNat']; omega
theorem dec_dig : ∀ (n : Nat), (Lib.decDigits n).all isDg = true := by
  intro n
  induction n using Nat.strongRecOn with
  | _ n ih =>
    by_cases h : n < 10
    · rw [Lib.decDigits_one h]; simp [isDg, dig_of h]; omega
    · rw [Lib.decDigits, dif_neg h, List.all_append, ih (n / 10) (by omega)]
      simp [isDg, dig_of (show n % 10 < 10 by omega)]; omega
theorem dec_num : ∀ (n : Nat), numV (Lib.decDigits n) = n := by
  intro n
  induction n using Nat.strongRecOn with
  | _ n ih =>
    by_cases h : n < 10
    · rw [Lib.decDigits_one h]
      have hd := dig_of h
      show 10 * 0 + ((UInt8.ofNat (48 + n)).toNat - 48) = n
      rw [hd]; omega
    · rw [Lib.decDigits, dif_neg h, numV_snoc, ih (n / 10) (by omega), dig_of (by omega)]; omega
theorem dec_ne (n : Nat) : Lib.decDigits n ≠ [] := by
  intro h
  have := Lib.decDigits_length n
  rw [h] at this
  have h2 := Lib.nDigits_pos n
  simp at this; omega
theorem dec_head : ∀ (n : Nat), 1 ≤ n → (Lib.decDigits n).getD 0 0 ≠ 48 := by
  intro n
  induction n using Nat.strongRecOn with
  | _ n ih =>
    intro hn
    by_cases h : n < 10
    · rw [Lib.decDigits_one h]
      intro e
      have h2 := dig_of h
      have e2 : UInt8.ofNat (48 + n) = 48 := e
      rw [e2] at h2
      have h3 : (48 : UInt8).toNat = 48 := rfl
      omega
    · rw [Lib.decDigits, dif_neg h]
      have h2 := ih (n / 10) (by omega) (by omega)
      have h3 := dec_ne (n / 10)
      cases hd : Lib.decDigits (n / 10) with
      | nil => exact absurd hd h3
      | cons a r => rw [hd] at h2; simpa using h2
theorem dec_nb {n : Nat} (h : n < 10 ^ 10) : nbB (Lib.decDigits n) = true := by
  unfold nbB
  rw [dec_dig n, Bool.and_true, Bool.and_eq_true, Bool.and_eq_true]
  refine ⟨⟨?_, ?_⟩, ?_⟩
  · have := dec_ne n
    cases hd : Lib.decDigits n with
    | nil => exact absurd hd this
    | cons a r => rfl
  · have := dec_len h (by omega)
    simpa using this
  · by_cases h1 : n < 10
    · rw [Lib.decDigits_one h1]; simp
    · have := dec_head n (by omega)
      have h2 : ((Lib.decDigits n).getD 0 0 == 48) = false := by simpa using this
      rw [h2]; rfl
theorem digOf_toNat {b : UInt8} (h : isDg b = true) : UInt8.ofNat (48 + (b.toNat - 48)) = b := by
  unfold isDg at h
  simp at h
  rw [show 48 + (b.toNat - 48) = b.toNat by omega]
  exact UInt8.ofNat_toNat
theorem num_dec : ∀ (k : Nat) (l : List UInt8), l.length = k → l ≠ [] → (l.getD 0 0 = 48 → l.length = 1) → l.all isDg = true → Lib.decDigits (numV l) = l := by
  intro k
  induction k with
  | zero => intro l h1 h2; simp at h1; exact absurd h1 h2
  | succ k ih =>
    intro l h1 h2 h3 h4
    have e := (List.dropLast_concat_getLast h2).symm
    generalize l.dropLast = x at e
    generalize l.getLast h2 = b at e
    subst e
    rw [List.all_append, Bool.and_eq_true] at h4
    have hb : isDg b = true := by simpa using h4.2
    rw [numV_snoc]
    have hb2 : b.toNat - 48 < 10 := by unfold isDg at hb; simp at hb; omega
    cases x with
    | nil =>
      simp only [numV, List.foldl_nil, List.nil_append]
      rw [Lib.decDigits_one (by omega), show 48 + (10 * 0 + (b.toNat - 48)) = 48 + (b.toNat - 48) by omega, digOf_toNat hb]
    | cons a r =>
      have hh : ¬ a = 48 := fun e => by
        have := h3 (by simpa using e)
        simp at this
      have hx := ih (a :: r) (by simp at h1 ⊢; omega) (by simp) (fun e => absurd (by simpa using e) hh) h4.1
      have hp : 1 ≤ numV (a :: r) := by
        by_cases h0 : numV (a :: r) = 0
        · rw [h0, Lib.decDigits_one (by omega)] at hx
          simp at hx
          exact absurd hx.1.symm hh
        · omega
      rw [Lib.decDigits, dif_neg (by omega), show (10 * numV (a :: r) + (b.toNat - 48)) / 10 = numV (a :: r) by omega, hx, show (10 * numV (a :: r) + (b.toNat - 48)) % 10 = b.toNat - 48 by omega, digOf_toNat hb]
theorem nb_dec {l : List UInt8} (h : nbB l = true) : Lib.decDigits (numV l) = l := by
  unfold nbB at h
  rw [Bool.and_eq_true, Bool.and_eq_true, Bool.and_eq_true] at h
  obtain ⟨⟨⟨h1, h2⟩, h3⟩, h4⟩ := h
  refine num_dec _ l rfl (by intro e; rw [e] at h1; simp at h1) (fun e => ?_) h4
  have : (l.getD 0 0 == 48) = true := by rw [e]; rfl
  rw [this, Bool.true_and] at h3
  have hl : 1 ≤ l.length := List.length_pos_iff.2 (by intro e; rw [e] at h1; simp at h1)
  simp at h3; omega
/-! The kit's words for a number that is read. -/
theorem pM_append {M : Nat} : ∀ (x y : List UInt8) (a b : Nat), Lib.parseUintM M a x = .ok b → Lib.parseUintM M a (x ++ y) = Lib.parseUintM M b y
  | [], y, a, b, h => by simp only [Lib.parseUintM, Lib.NumEnd.ok.injEq] at h; rw [h]; rfl
  | c :: x, y, a, b, h => by
    simp only [Lib.parseUintM, List.cons_append] at h ⊢
    split at h
    · split at h
      · cases h
      · split at h
        · cases h
        · rename_i h1 h2 h3
          rw [if_pos h1, if_neg h2, if_neg h3]
          exact pM_append x y _ b h
    · cases h
theorem pM_dec : ∀ (n : Nat), n ≤ 18446744073709551615 → Lib.parseUintM 18446744073709551615 0 (Lib.decDigits n) = .ok n := by
  intro n
  induction n using Nat.strongRecOn with
  | _ n ih =>
    intro hn
    by_cases h : n < 10
    · rw [Lib.decDigits_one h]
      have hd := dig_of h
      simp only [Lib.parseUintM, hd]
      rw [if_pos (by omega), if_neg (by omega), if_neg (by omega)]
      simp
    · rw [Lib.decDigits, dif_neg h, pM_append _ _ _ _ (ih (n / 10) (by omega) (by omega))]
      have hd := dig_of (d := n % 10) (by omega)
      simp only [Lib.parseUintM, hd]
      rw [if_pos (by omega), if_neg (by omega), if_neg (by omega)]
      congr 1; omega
theorem parse_dec {n : Nat} (h : n ≤ 9223372036854775807) : Lib.parseIntB 64 (Lib.decDigits n) = .ok (n : Int) := by
  have hne := dec_ne n
  have hp := pM_dec n (by omega)
  have hdg := dec_dig n
  cases hd : Lib.decDigits n with
  | nil => exact absurd hd hne
  | cons c r =>
    rw [hd] at hp hdg
    have hc : isDg c = true := by simp at hdg; exact hdg.1
    unfold isDg at hc
    simp at hc
    simp only [Lib.parseIntB]
    rw [if_neg (by omega)]
    have hu : Lib.parseUintB 64 (c :: r) = .ok n := by
      unfold Lib.parseUintB
      rw [if_neg (by simp)]
      exact hp
    rw [hu]
    simp only
    rw [if_neg (by omega), if_neg (by omega), if_neg (by omega)]
def nbN (l : List UInt8) : Int := if nbB l = true then (numV l : Int) else 0
theorem numV_lt {l : List UInt8} (h : l.all isDg = true) : numV l < 10 ^ l.length := by
  generalize hk : l.length = k
  induction k generalizing l with
  | zero => have : l = [] := List.length_eq_zero_iff.1 hk; subst this; simp [numV]
  | succ k ih =>
    have hne : l ≠ [] := by intro e; rw [e] at hk; simp at hk
    have e := (List.dropLast_concat_getLast hne).symm
    generalize l.dropLast = x at e
    generalize l.getLast hne = b at e
    subst e
    rw [List.all_append, Bool.and_eq_true] at h
    have hb : isDg b = true := by simpa using h.2
    have := ih h.1 (by simp at hk; omega)
    unfold isDg at hb
    simp at hb
    rw [numV_snoc, Nat.pow_succ]; omega
theorem dg_take {l : List UInt8} {i : Nat} (hi : i < l.length) (h : (l.take i).all isDg = true) (hb : isDg (l.getD i 0) = true) : (l.take (i + 1)).all isDg = true ∧ numV (l.take (i + 1)) = 10 * numV (l.take i) + ((l.getD i 0).toNat - 48) := by
  have e : l.take (i + 1) = l.take i ++ [l.getD i 0] := by rw [List.take_add_one, List.getD_eq_getElem?_getD]; simp [hi]
  rw [e, numV_snoc, List.all_append, h]
  exact ⟨by simp only [List.all_cons, List.all_nil, Bool.and_true, Bool.true_and]; exact hb, rfl⟩
theorem nbB_len {l : List UInt8} (h : (l.isEmpty || decide (10 < l.length) || (l.getD 0 0 == 48 && decide (1 < l.length))) = true) : nbB l = false := by
  unfold nbB
  simp only [Bool.or_eq_true] at h
  rcases h with (h | h) | h
  · rw [h]; rfl
  · have : decide (l.length ≤ 10) = false := by simp at h ⊢; omega
    rw [this]; simp
  · rw [h]; simp
theorem nbB_dig {l : List UInt8} {i : Nat} (hi : i < l.length) (hb : isDg (l.getD i 0) = false) : nbB l = false := by
  unfold nbB
  have : l.all isDg = false := by
    rw [List.all_eq_false]
    exact ⟨l.getD i 0, by rw [List.getD_eq_getElem?_getD, List.getElem?_eq_getElem hi]; exact List.getElem_mem hi, by rw [hb]; exact Bool.false_ne_true⟩
  rw [this, Bool.and_false]
/-- Rain in words. -/
def rrW (l : List UInt8) : List (List UInt8) := spl 32 l
def wdB (x : List UInt8) : Bool := nbB x && decide ((numV x : Int) ≤ 1000)
def rrOk (r : Roof) (l : List UInt8) : Bool := decide (((rrW l).length : Int) = 2 * r.w + 1) && (rrW l).all wdB
def rrF (l : List UInt8) : Nat → Int := fun c => ((numV ((rrW l).getD c []) : Nat) : Int)
def rrV (r : Roof) (l : List UInt8) : D := if okR r = true then (if rrOk r l = true then .tup [raiD (rrF l), .v (.int .i64 0)] else .tup [raiD fun _ => 0, .v (.int .i64 5)]) else .tup [raiD fun _ => 0, .v (.int .i64 1)]
theorem rrF_mix (l : List UInt8) : mix (rrF l) (fun _ => 0) (rrW l).length = rrF l := by
  funext c
  unfold mix
  by_cases h : c < (rrW l).length
  · rw [if_pos h]
  · rw [if_neg h]; unfold rrF
    rw [List.getD_eq_getElem?_getD, List.getElem?_eq_none (by omega)]; rfl
theorem rr_yes {r : Roof} {l : List UInt8} (h1 : ((rrW l).length : Int) = 2 * r.w + 1) (h2 : ∀ i, i < (rrW l).length → wdB ((rrW l).getD i []) = true) : rrOk r l = true := by
  unfold rrOk
  rw [Bool.and_eq_true, List.all_eq_true]
  refine ⟨by simpa using h1, fun x hx => ?_⟩
  obtain ⟨i, hi⟩ := List.getElem?_of_mem hx
  have hl := (List.getElem?_eq_some_iff.1 hi).1
  have := h2 i hl
  rw [List.getD_eq_getElem?_getD, hi] at this
  exact this
theorem rr_no {r : Roof} {l : List UInt8} {i : Nat} (hi : i < (rrW l).length) (h : wdB ((rrW l).getD i []) = false) : rrOk r l = false := by
  unfold rrOk
  have : (rrW l).all wdB = false := by
    rw [List.all_eq_false]
    exact ⟨(rrW l).getD i [], by rw [List.getD_eq_getElem?_getD, List.getElem?_eq_getElem hi]; exact List.getElem_mem hi, by rw [h]; exact Bool.false_ne_true⟩
  rw [this, Bool.and_false]
theorem spl_in {c : UInt8} : ∀ {l : List UInt8} {x : List UInt8}, x ∈ spl c l → x.length ≤ l.length
  | [], x, h => by simp [spl] at h; subst h; simp
  | b :: l, x, h => by
    by_cases hb : b = c
    · subst hb
      rw [spl_hit] at h
      rcases List.mem_cons.1 h with rfl | h
      · simp
      · have := spl_in h; simp; omega
    · cases hs : spl c l with
      | nil => exact absurd hs (spl_ne c l)
      | cons y ys =>
        rw [spl_miss hb hs] at h
        rcases List.mem_cons.1 h with rfl | h
        · have := spl_in (c := c) (l := l) (x := y) (by rw [hs]; simp); simp; omega
        · have := spl_in (c := c) (l := l) (x := x) (by rw [hs]; simp [h]); simp; omega
theorem spl_at {c : UInt8} {l : List UInt8} (i : Nat) : ((spl c l).getD i []).length ≤ l.length := by
  rw [List.getD_eq_getElem?_getD]
  cases h : (spl c l)[i]? with
  | none => simp
  | some x => exact spl_in (List.mem_of_getElem? h)
end Go.V
namespace Go.Proofs.YtdbhfobnmlogeaaDoor
open Go.V
theorem rd_dec {n : Nat} (h : n ≤ 9223372036854775807) : rdN (Lib.decDigits n) = n ∧ rdB (Lib.decDigits n) = true := by
  unfold rdN rdB
  rw [parse_dec h]
  refine ⟨rfl, ?_⟩
  have e : decB (n : Int) = bsOf (Lib.decDigits n) := by unfold decB; rw [Lib.itoa]; rw [if_neg (by omega)]; simp
  simp [e]
theorem rd_yes {l : List UInt8} (h : rdB l = true) : 0 ≤ rdN l ∧ l = Lib.decDigits (rdN l).toNat := by
  unfold rdB at h
  split at h
  · rename_i v hv
    have e : rdN l = v := by unfold rdN; rw [hv]
    rw [e]
    rw [Bool.and_eq_true] at h
    have h1 : 0 ≤ v := by simpa using h.1
    refine ⟨h1, ?_⟩
    have h2 := h.2
    rw [decB_nn h1, bs_toList, bs_toList] at h2
    simpa using (by simpa using h2 : Lib.decDigits v.toNat = l).symm
  · cases h
/-- A number of at most 1000 is read by both sides alike. -/
theorem rd_nb (l : List UInt8) (m : Int) (hm : m ≤ 1000000000) : (rdB l && decide (rdN l ≤ m)) = (nbB l && decide ((numV l : Int) ≤ m)) := by
  rw [Bool.eq_iff_iff, Bool.and_eq_true, Bool.and_eq_true, decide_eq_true_eq, decide_eq_true_eq]
  constructor
  · rintro ⟨h1, h2⟩
    obtain ⟨h3, h4⟩ := rd_yes h1
    have hlt : (rdN l).toNat < 10 ^ 10 := by omega
    have h5 := dec_nb hlt
    have h6 := dec_num (rdN l).toNat
    rw [← h4] at h5 h6
    exact ⟨h5, by omega⟩
  · rintro ⟨h1, h2⟩
    have h3 := nb_dec h1
    have h4 := rd_dec (n := numV l) (by omega)
    rw [h3] at h4
    exact ⟨h4.2, by rw [h4.1]; exact h2⟩
theorem rd_val {l : List UInt8} (h : nbB l = true) (hm : numV l ≤ 1000000000) : rdN l = numV l ∧ rdB l = true := by
  have h3 := nb_dec h
  have h4 := rd_dec (n := numV l) (by omega)
  rw [h3] at h4
  exact h4
theorem rd_wd (x : List UInt8) : (rdB x && deepB (rdN x)) = wdB x := by
  rw [show wdB x = (nbB x && decide ((numV x : Int) ≤ 1000)) from rfl, ← rd_nb x 1000 (by omega)]
  cases h : rdB x
  · rfl
  · have := (rd_yes h).1
    rw [Bool.true_and, Bool.true_and]
    unfold deepB
    rw [show decide (rdN x ≥ 0) = true by simpa using this, Bool.true_and]
theorem l01Number_sat (l : List UInt8) (hl : l.length ≤ 1048576) : Sat Tryd.prog 82 [.v (.string (bsOf l))] (.tup [.v (.int .i64 (nbN l)), .v (.bool (nbB l))]) := by
  have c1 : ((bsOf l).toList == (⟨#[]⟩ : ByteArray).toList) = l.isEmpty := by rw [bs_toList, show (⟨#[]⟩ : ByteArray).toList = [] from bs_toList []]; cases l <;> rfl
  have c2 : decide (((bsOf l).size : Int) > 10) = decide (10 < l.length) := by rw [bs_size, Bool.eq_iff_iff]; simp; omega
  have c4 : decide (((bsOf l).size : Int) > 1) = decide (1 < l.length) := by rw [bs_size, Bool.eq_iff_iff]; simp; omega
  have c3 : (byteAt (bsOf l) 0 == 48) = (l.getD 0 0 == 48) := by
    have : (byteAt (bsOf l) 0 == 48) = decide (l.getD 0 0 = 48) := byteIs 48 (by omega)
    rw [this, Bool.eq_iff_iff]; simp
  have bad : nbB l = false → D.tup [.v (.int .i64 (nbN l)), .v (.bool (nbB l))] = D.tup [.v (.int .i64 0), .v (.bool false)] := fun h => by unfold nbN; rw [if_neg (by simp [h]), h]
  have lenB := nbB_len (l := l)
  refine sat_of_wp hMix tOk Tryd.func82 rfl rfl Tryd.ntmps82 rfl rfl Tryd.results82 (by kernel_rfl) ?_
  conv => whnf
  repeat (first | (refine go_F8 ?_; conv => whnf) | (refine lk_F8 ?_; conv => whnf))
  rw [c1]
  cases h1 : l.isEmpty
  case true =>
    rw [bad (lenB (by rw [h1]; rfl))]
    conv => whnf
    repeat (first | (refine go_F8 ?_; conv => whnf) | (refine lk_F8 ?_; conv => whnf))
    first | refine ⟨rfl, _, rfl, ?_⟩ | refine ⟨_, rfl, ?_⟩
    rfl
  have hpos : 0 < l.length := List.length_pos_iff.2 (by intro e; rw [e] at h1; cases h1)
  conv => whnf
  repeat (first | (refine go_F8 ?_; conv => whnf) | (refine lk_F8 ?_; conv => whnf))
  rw [c2]
  cases h2 : decide (10 < l.length)
  case true =>
    rw [bad (lenB (by rw [h2]; simp))]
    conv => whnf
    repeat (first | (refine go_F8 ?_; conv => whnf) | (refine lk_F8 ?_; conv => whnf))
    first | refine ⟨rfl, _, rfl, ?_⟩ | refine ⟨_, rfl, ?_⟩
    rfl
  have h10 : l.length ≤ 10 := by simpa using h2
  conv => whnf
  refine ⟨⟨by omega, by rw [bs_size]; omega⟩, ?_⟩
  conv => whnf
  rw [show byteAt (bsOf l) (0 : Int).toNat = byteAt (bsOf l) 0 from rfl, c3]
  have key : (l.getD 0 0 == 48 && decide (1 < l.length)) = true → nbB l = false := fun h => lenB (by rw [h]; simp)
  have body : (l.getD 0 0 == 48 && decide (1 < l.length)) = false → (∀ K : Int → Bool → Prop, True) := fun _ _ => trivial
  have hn0 : (l.getD 0 0 == 48 && decide (1 < l.length)) = false → l.all isDg = true → nbB l = true := fun h h2 => by
    unfold nbB; rw [h1, h, h2]; simpa using h10
  cases h3 : (l.getD 0 0 == 48)
  case false =>
    rw [h3, Bool.false_and] at hn0
    conv => whnf
    repeat (first | (refine go_F8 ?_; conv => whnf) | (refine lk_F8 ?_; conv => whnf))
    refine loop_rule (α := Nat) (fun i => [(0, .v (.string (bsOf l))), (4, .v (.int .i64 (numV (l.take i) : Nat))), (5, .v (.int .i64 i))]) (fun i => []) (fun i => i ≤ l.length ∧ (l.take i).all isDg = true) (fun i => l.length - i) (0) ?_ (sim_of (rn := []) rfl ?_ ?_) ?_
    · exact ⟨by omega, rfl⟩
    · ((repeat' (first | exact trivial | apply And.intro)) <;> (first | rfl | (rfl) | exact leaf_F8))
    · ((repeat' (first | exact trivial | apply And.intro)) <;> ((first | refine ⟨_, _, rfl, rfl, ?_⟩ ); rfl))
    rintro i ⟨hi, hall⟩
    conv => whnf
    repeat (first | (refine go_F8 ?_; conv => whnf) | (refine lk_F8 ?_; conv => whnf))
    cases h5 : decide ((i : Int) < ((bsOf l).size : Int))
    · have hil : i = l.length := by simp at h5; omega
      subst hil
      rw [List.take_length] at hall ⊢
      have hy : nbB l = true := hn0 rfl hall
      rw [show nbN l = (numV l : Nat) by unfold nbN; rw [if_pos hy], hy]
      conv => whnf
      repeat (first | (refine go_F8 ?_; conv => whnf) | (refine lk_F8 ?_; conv => whnf))
      first | refine ⟨rfl, _, rfl, ?_⟩ | refine ⟨_, rfl, ?_⟩
      rfl
    have hil : i < l.length := by simpa using h5
    have hpw : 10 ^ (l.take i).length ≤ 10 ^ 10 := Nat.pow_le_pow_right (by omega) (by rw [List.length_take]; omega)
    have hnl := numV_lt hall
    have hdt := dg_take hil hall
    have hnd := nbB_dig hil
    have hbb := (l.getD i 0).toNat_lt
    have hbt := byteAt_bs l i
    generalize hbd : l.getD i 0 = b at *
    conv => whnf
    repeat (first | (refine go_F8 ?_; conv => whnf) | (refine lk_F8 ?_; conv => whnf))
    try rw [show byteAt (bsOf l) (i : Int).toNat = byteAt (bsOf l) i by rw [Int.toNat_natCast]]
    rw [hbt]
    cases h6 : decide ((b.toNat : Int) < 48)
    case true =>
      rw [bad (hnd (by unfold isDg; rw [show decide (48 ≤ b.toNat) = false by simp at h6 ⊢; omega]; rfl))]
      conv => whnf
      repeat (first | (refine go_F8 ?_; conv => whnf) | (refine lk_F8 ?_; conv => whnf))
      first | refine ⟨rfl, _, rfl, ?_⟩ | refine ⟨_, rfl, ?_⟩
      rfl
    have h6' : 48 ≤ b.toNat := by simp at h6; omega
    conv => whnf
    repeat (first | (refine go_F8 ?_; conv => whnf) | (refine lk_F8 ?_; conv => whnf))
    try rw [show byteAt (bsOf l) (i : Int).toNat = byteAt (bsOf l) i by rw [Int.toNat_natCast]]
    try rw [hbt]
    cases h7 : decide ((b.toNat : Int) > 57)
    case true =>
      rw [bad (hnd (by unfold isDg; rw [show decide (b.toNat ≤ 57) = false by simp at h7 ⊢; omega, Bool.and_false]))]
      conv => whnf
      repeat (first | (refine go_F8 ?_; conv => whnf) | (refine lk_F8 ?_; conv => whnf))
      first | refine ⟨rfl, _, rfl, ?_⟩ | refine ⟨_, rfl, ?_⟩
      rfl
    have h7' : b.toNat ≤ 57 := by simp at h7; omega
    have hdt' := hdt (by unfold isDg; rw [decide_eq_true h6', decide_eq_true h7']; rfl)
    conv => whnf
    repeat (first | (refine go_F8 ?_; conv => whnf) | (refine lk_F8 ?_; conv => whnf))
    try rw [show byteAt (bsOf l) (i : Int).toNat = byteAt (bsOf l) i by rw [Int.toNat_natCast]]
    try rw [hbt]
    have e1 : IntKind.u8.wrap ((b.toNat : Int) - 48) = ((b.toNat - 48 : Nat) : Int) := by rw [wu8 (by omega) (by omega)]; omega
    have e2 : IntKind.i64.wrap (10 * ((numV (l.take i) : Nat) : Int)) = 10 * ((numV (l.take i) : Nat) : Int) := w64 (by omega) (by omega)
    have e3 : IntKind.i64.wrap (10 * ((numV (l.take i) : Nat) : Int) + IntKind.i64.wrap (IntKind.u8.wrap ((b.toNat : Int) - 48))) = ((numV (l.take (i + 1)) : Nat) : Int) := by
      rw [e1, w64 (n := ((b.toNat - 48 : Nat) : Int)) (by omega) (by omega), w64 (by omega) (by omega), hdt'.2]; omega
    refine ⟨i + 1, ?_, ?_, sim_of (rn := []) rfl ?_ ?_⟩
    · (dsimp only; omega)
    · exact ⟨by omega, hdt'.1⟩
    · ((repeat' (first | exact trivial | apply And.intro)) <;> (first | rfl | (exact vintS (by rw [e2, e3])) | exact leaf_F8))
    · ((repeat' (first | exact trivial | apply And.intro)) <;> ((first | refine ⟨_, _, rfl, rfl, ?_⟩ ); rfl))
  case true =>
    rw [h3, Bool.true_and] at hn0 key
    conv => whnf
    rw [c4]
    cases h4 : decide (1 < l.length)
    case true =>
      rw [bad (key h4)]
      conv => whnf
      repeat (first | (refine go_F8 ?_; conv => whnf) | (refine lk_F8 ?_; conv => whnf))
      first | refine ⟨rfl, _, rfl, ?_⟩ | refine ⟨_, rfl, ?_⟩
      rfl
    rw [h4] at hn0
    conv => whnf
    repeat (first | (refine go_F8 ?_; conv => whnf) | (refine lk_F8 ?_; conv => whnf))
    refine loop_rule (α := Nat) (fun i => [(0, .v (.string (bsOf l))), (4, .v (.int .i64 (numV (l.take i) : Nat))), (5, .v (.int .i64 i))]) (fun i => []) (fun i => i ≤ l.length ∧ (l.take i).all isDg = true) (fun i => l.length - i) (0) ?_ (sim_of (rn := []) rfl ?_ ?_) ?_
    · exact ⟨by omega, rfl⟩
    · ((repeat' (first | exact trivial | apply And.intro)) <;> (first | rfl | (rfl) | exact leaf_F8))
    · ((repeat' (first | exact trivial | apply And.intro)) <;> ((first | refine ⟨_, _, rfl, rfl, ?_⟩ ); rfl))
    rintro i ⟨hi, hall⟩
    conv => whnf
    repeat (first | (refine go_F8 ?_; conv => whnf) | (refine lk_F8 ?_; conv => whnf))
    cases h5 : decide ((i : Int) < ((bsOf l).size : Int))
    · have hil : i = l.length := by simp at h5; omega
      subst hil
      rw [List.take_length] at hall ⊢
      have hy : nbB l = true := hn0 rfl hall
      rw [show nbN l = (numV l : Nat) by unfold nbN; rw [if_pos hy], hy]
      conv => whnf
      repeat (first | (refine go_F8 ?_; conv => whnf) | (refine lk_F8 ?_; conv => whnf))
      first | refine ⟨rfl, _, rfl, ?_⟩ | refine ⟨_, rfl, ?_⟩
      rfl
    have hil : i < l.length := by simpa using h5
    have hpw : 10 ^ (l.take i).length ≤ 10 ^ 10 := Nat.pow_le_pow_right (by omega) (by rw [List.length_take]; omega)
    have hnl := numV_lt hall
    have hdt := dg_take hil hall
    have hnd := nbB_dig hil
    have hbb := (l.getD i 0).toNat_lt
    have hbt := byteAt_bs l i
    generalize hbd : l.getD i 0 = b at *
    conv => whnf
    repeat (first | (refine go_F8 ?_; conv => whnf) | (refine lk_F8 ?_; conv => whnf))
    try rw [show byteAt (bsOf l) (i : Int).toNat = byteAt (bsOf l) i by rw [Int.toNat_natCast]]
    rw [hbt]
    cases h6 : decide ((b.toNat : Int) < 48)
    case true =>
      rw [bad (hnd (by unfold isDg; rw [show decide (48 ≤ b.toNat) = false by simp at h6 ⊢; omega]; rfl))]
      conv => whnf
      repeat (first | (refine go_F8 ?_; conv => whnf) | (refine lk_F8 ?_; conv => whnf))
      first | refine ⟨rfl, _, rfl, ?_⟩ | refine ⟨_, rfl, ?_⟩
      rfl
    have h6' : 48 ≤ b.toNat := by simp at h6; omega
    conv => whnf
    repeat (first | (refine go_F8 ?_; conv => whnf) | (refine lk_F8 ?_; conv => whnf))
    try rw [show byteAt (bsOf l) (i : Int).toNat = byteAt (bsOf l) i by rw [Int.toNat_natCast]]
    try rw [hbt]
    cases h7 : decide ((b.toNat : Int) > 57)
    case true =>
      rw [bad (hnd (by unfold isDg; rw [show decide (b.toNat ≤ 57) = false by simp at h7 ⊢; omega, Bool.and_false]))]
      conv => whnf
      repeat (first | (refine go_F8 ?_; conv => whnf) | (refine lk_F8 ?_; conv => whnf))
      first | refine ⟨rfl, _, rfl, ?_⟩ | refine ⟨_, rfl, ?_⟩
      rfl
    have h7' : b.toNat ≤ 57 := by simp at h7; omega
    have hdt' := hdt (by unfold isDg; rw [decide_eq_true h6', decide_eq_true h7']; rfl)
    conv => whnf
    repeat (first | (refine go_F8 ?_; conv => whnf) | (refine lk_F8 ?_; conv => whnf))
    try rw [show byteAt (bsOf l) (i : Int).toNat = byteAt (bsOf l) i by rw [Int.toNat_natCast]]
    try rw [hbt]
    have e1 : IntKind.u8.wrap ((b.toNat : Int) - 48) = ((b.toNat - 48 : Nat) : Int) := by rw [wu8 (by omega) (by omega)]; omega
    have e2 : IntKind.i64.wrap (10 * ((numV (l.take i) : Nat) : Int)) = 10 * ((numV (l.take i) : Nat) : Int) := w64 (by omega) (by omega)
    have e3 : IntKind.i64.wrap (10 * ((numV (l.take i) : Nat) : Int) + IntKind.i64.wrap (IntKind.u8.wrap ((b.toNat : Int) - 48))) = ((numV (l.take (i + 1)) : Nat) : Int) := by
      rw [e1, w64 (n := ((b.toNat - 48 : Nat) : Int)) (by omega) (by omega), w64 (by omega) (by omega), hdt'.2]; omega
    refine ⟨i + 1, ?_, ?_, sim_of (rn := []) rfl ?_ ?_⟩
    · (dsimp only; omega)
    · exact ⟨by omega, hdt'.1⟩
    · ((repeat' (first | exact trivial | apply And.intro)) <;> (first | rfl | (exact vintS (by rw [e2, e3])) | exact leaf_F8))
    · ((repeat' (first | exact trivial | apply And.intro)) <;> ((first | refine ⟨_, _, rfl, rfl, ?_⟩ ); rfl))
theorem isAmount64_sat (n : Int) : Sat Tryd.prog 86 [.v (.int .i64 n)] (.v (.bool (deepB n))) := by
  refine sat_of_wp hMix tOk Tryd.func86 rfl rfl Tryd.ntmps86 rfl rfl Tryd.results86 (by kernel_rfl) ?_
  conv => whnf
  repeat (first | (refine go_F8 ?_; conv => whnf) | (refine lk_F8 ?_; conv => whnf))
  first | refine ⟨_, _, rfl, sc_F8 (within64_sat n 0 1000), ?_⟩ | refine .inl ⟨_, _, rfl, sc_F8 (within64_sat n 0 1000), ?_⟩
  conv => whnf
  repeat (first | (refine go_F8 ?_; conv => whnf) | (refine lk_F8 ?_; conv => whnf))
  first | refine ⟨rfl, _, rfl, ?_⟩ | refine ⟨_, rfl, ?_⟩
  rfl
theorem eqRain_same (w : Nat → Int) : Sat Tryd.prog 28 [raiD w, raiD w] (.v (.bool true)) := by
  refine sat_of_wp hMix tOk Tryd.func28 rfl rfl Tryd.ntmps28 rfl rfl Tryd.results28 (by kernel_rfl) ?_
  conv => whnf
  repeat (first | (refine go_F8 ?_; conv => whnf) | (refine lk_F8 ?_; conv => whnf))
  refine loop_rule (α := Nat) (fun i => [(2, .ptr (2, 0, 0) 0), (3, .ptr (3, 0, 0) 0), (5, .v (.int .i64 i))]) (fun i => [((2, 0, 0), raiD w), ((3, 0, 0), raiD w)]) (fun i => i ≤ 17) (fun i => 17 - i) (0) ?_ (sim_of (rn := [((2, 0, 0), (2, 0, 0)), ((3, 0, 0), (3, 0, 0))]) rfl ?_ ?_) ?_
  · exact okt_F8
  · exact hold_F8
  · ((repeat' (first | exact trivial | apply And.intro)) <;> ((first | refine ⟨_, _, rfl, rfl, ?_⟩ ); rfl))
  intro i hi
  conv => whnf
  repeat (first | (refine go_F8 ?_; conv => whnf) | (refine lk_F8 ?_; conv => whnf))
  cases h1 : decide ((i : Int) < 17)
  · conv => whnf
    repeat (first | (refine go_F8 ?_; conv => whnf) | (refine lk_F8 ?_; conv => whnf))
    first | refine ⟨rfl, _, rfl, ?_⟩ | refine ⟨_, rfl, ?_⟩
    rfl
  have h17 : i < 17 := by simp at h1; omega
  conv => whnf
  repeat (first | (refine go_F8 ?_; conv => whnf) | (refine lk_F8 ?_; conv => whnf))
  rw [show (w i != w i) = false by simp]
  conv => whnf
  repeat (first | (refine go_F8 ?_; conv => whnf) | (refine lk_F8 ?_; conv => whnf))
  refine ⟨i + 1, ?_, ?_, sim_of (rn := [((2, 0, 0), (2, 0, 0)), ((3, 0, 0), (3, 0, 0))]) rfl ?_ ?_⟩
  · (dsimp only; omega)
  · exact okt_F8
  · exact hold_F8
  · ((repeat' (first | exact trivial | apply And.intro)) <;> ((first | refine ⟨_, _, rfl, rfl, ?_⟩ ); rfl))
theorem specReadRain_sat (r : Roof) (hr : r.In) (l : List UInt8) (hl : l.length ≤ 1048576) : Sat Tryd.prog 26 [roofD r, .v (.string (bsOf l))] (rrV r l) := by
  have hz : (splice (List.replicate 17 (Value.int .i16 0)) 0 (List.replicate 17 (.int .i16 0))) = List.replicate 17 (.int .i16 0) := splice_all (by simp)
  have bad : ∀ x : Int, D.tup [raiD fun _ => 0, .v (.int .i64 x)] = one' [D.v (.agg ⟨(((splice (List.replicate 17 (Value.int .i16 0)) 0 (List.replicate 17 (.int .i16 0))).drop 0).take 17)⟩), .v (.int .i64 x)] := fun x => by
    rw [hz, take_drop0 (by simp)]; unfold raiD; rw [raiC_zero]; rfl
  have bad5 : okR r = true → rrOk r l = false → rrV r l = .tup [raiD fun _ => 0, .v (.int .i64 5)] := fun h1 h2 => by unfold rrV; rw [if_pos h1, if_neg (by simp [h2])]
  refine sat_of_wp hMix tOk Tryd.func26 rfl rfl Tryd.ntmps26 rfl rfl Tryd.results26 (by kernel_rfl) ?_
  conv => whnf
  repeat (first | (refine go_F8 ?_; conv => whnf) | (refine lk_F8 ?_; conv => whnf))
  first | refine ⟨_, _, rfl, sc_F8 (l01Ok_sat r hr), ?_⟩ | refine .inl ⟨_, _, rfl, sc_F8 (l01Ok_sat r hr), ?_⟩
  conv => whnf
  repeat (first | (refine go_F8 ?_; conv => whnf) | (refine lk_F8 ?_; conv => whnf))
  cases hR : okR r
  · conv => whnf
    repeat (first | (refine go_F8 ?_; conv => whnf) | (refine lk_F8 ?_; conv => whnf))
    first | refine ⟨rfl, _, rfl, ?_⟩ | refine ⟨_, rfl, ?_⟩
    skip
    unfold rrV; rw [hR]; exact bad 1
  have hb := okR_bounds hR
  conv => whnf
  repeat (first | (refine go_F8 ?_; conv => whnf) | (refine lk_F8 ?_; conv => whnf))
  first | refine ⟨_, _, rfl, sc_F8 (l01Split_sat l hl 32), ?_⟩ | refine .inl ⟨_, _, rfl, sc_F8 (l01Split_sat l hl 32), ?_⟩
  conv => whnf
  repeat (first | (refine go_F8 ?_; conv => whnf) | (refine lk_F8 ?_; conv => whnf))
  first | refine ⟨_, _, rfl, sc_F8 (l01Cells_sat r hr hb), ?_⟩ | refine .inl ⟨_, _, rfl, sc_F8 (l01Cells_sat r hr hb), ?_⟩
  conv => whnf
  repeat (first | (refine go_F8 ?_; conv => whnf) | (refine lk_F8 ?_; conv => whnf))
  have hlenM : (List.map bsOf (spl 32 l)).length = (rrW l).length := by rw [List.length_map]; rfl
  have hMs : (rrW l).length ≤ 1048577 := by unfold rrW; rw [spl_len, Lib.count_one]; have := List.count_le_length (a := (32 : UInt8)) (l := l); omega
  rw [hlenM]
  cases h2 : (((rrW l).length : Int) != 2 * r.w + 1)
  case true =>
    rw [bad5 hR (by unfold rrOk; rw [show decide (((rrW l).length : Int) = 2 * r.w + 1) = false by simpa using h2]; rfl)]
    conv => whnf
    repeat (first | (refine go_F8 ?_; conv => whnf) | (refine lk_F8 ?_; conv => whnf))
    first | refine ⟨rfl, _, rfl, ?_⟩ | refine ⟨_, rfl, ?_⟩
    skip
    exact bad 5
  have hLw : ((rrW l).length : Int) = 2 * r.w + 1 := by simpa using h2
  have hget : ∀ i, sx ((spl 32 l).map bsOf) i = bsOf ((rrW l).getD i []) := fun i => sx_map _ _
  have hyl : ∀ i, ((rrW l).getD i []).length ≤ l.length := fun i => spl_at i
  have hyes := rr_yes hLw
  have hno := fun (i : Nat) => rr_no (r := r) (l := l) (i := i)
  have hF : ∀ c : Nat, rrF l c = ((numV ((rrW l).getD c []) : Nat) : Int) := fun _ => rfl
  have hmix := rrF_mix l
  generalize hws : (spl 32 l).map bsOf = ws at *
  generalize hLL : rrW l = L at *
  conv => whnf
  repeat (first | (refine go_F8 ?_; conv => whnf) | (refine lk_F8 ?_; conv => whnf))
  refine loop_rule (α := Nat) (fun i => [(4, .ptr (4, 0, 0) 0), (6, .slc true 1 (15, 0, 0) 0 ws.length), (7, .ptr (7, 0, 0) 0), (8, .v (.int .i64 i))]) (fun i => [((4, 0, 0), .v (.agg ⟨List.replicate 17 (.int .i16 0)⟩)), ((7, 0, 0), raiD (mix (rrF l) (fun _ => 0) i)), ((15, 0, 0), .v (.agg ⟨strsC ws⟩))]) (fun i => i ≤ L.length ∧ ∀ j, j < i → wdB (L.getD j []) = true) (fun i => L.length - i) (0) ?_ (sim_of (rn := [((4, 0, 0), (4, 0, 0)), ((7, 0, 0), (7, 0, 0)), ((15, 0, 0), (15, 0, 0))]) rfl ?_ ?_) ?_
  · exact ⟨by omega, fun j hj => by omega⟩
  · exact hold_F8
  · ((repeat' (first | exact trivial | apply And.intro)) <;> ((first | refine ⟨_, _, rfl, rfl, ?_⟩ ); first | rfl | (exact cset (by rw [mix_zero, raiC_zero]; first | rfl | exact hz | exact hz.symm))))
  rintro i ⟨hi, hall⟩
  conv => whnf
  repeat (first | (refine go_F8 ?_; conv => whnf) | (refine lk_F8 ?_; conv => whnf))
  cases h4 : decide ((i : Int) < (ws.length : Int))
  · have hiK : i = L.length := by simp at h4; omega
    subst hiK
    rw [show rrV r l = .tup [raiD (rrF l), .v (.int .i64 0)] by unfold rrV; rw [if_pos hR, if_pos (hyes hall)]]
    rw [hmix]
    conv => whnf
    repeat (first | (refine go_F8 ?_; conv => whnf) | (refine lk_F8 ?_; conv => whnf))
    first | refine ⟨rfl, _, rfl, ?_⟩ | refine ⟨_, rfl, ?_⟩
    skip
    exact congrArg (fun z => D.tup [D.v (.agg ⟨z⟩), .v (.int .i64 0)]) (copied (n := 17) (by simp) (by simp)).symm
  have hiK : i < L.length := by simp at h4; omega
  have hi17 : i < 17 := by omega
  have hgi : sx ws ((i : Int).toNat * ti9.size) = bsOf (L.getD i []) := by
    show sx ws ((i : Int).toNat * 1) = _
    rw [show (i : Int).toNat * 1 = i by omega]; exact hget i
  have hnoi := hno i hiK
  have hyi := hyl i
  have hFi := hF i
  have nxt := fun h => (⟨by omega, below_succ (p := fun j => wdB (L.getD j []) = true) hall h⟩ : i + 1 ≤ L.length ∧ ∀ j, j < i + 1 → wdB (L.getD j []) = true)
  generalize L.getD i [] = y at *
  have setA : numV y ≤ 1000 → (raiC (mix (rrF l) (fun _ => 0) i)).set (0 + (i : Int).toNat * 1) (.int .i16 (IntKind.i16.wrap ((numV y : Nat) : Int))) = raiC (mix (rrF l) (fun _ => 0) (i + 1)) := fun h => by
    rw [show 0 + (i : Int).toNat * 1 = i by omega, w16 (by omega) (by omega), ← hFi, rai_set rfl, mix_put]
  conv => whnf
  repeat (first | (refine go_F8 ?_; conv => whnf) | (refine lk_F8 ?_; conv => whnf))
  rw [hgi]
  first | refine ⟨_, _, rfl, sc_F8 (l01Number_sat y (by omega)), ?_⟩ | refine .inl ⟨_, _, rfl, sc_F8 (l01Number_sat y (by omega)), ?_⟩
  conv => whnf
  repeat (first | (refine go_F8 ?_; conv => whnf) | (refine lk_F8 ?_; conv => whnf))
  cases h5 : nbB y
  · rw [bad5 hR (hnoi (by unfold wdB; rw [h5]; rfl))]
    conv => whnf
    repeat (first | (refine go_F8 ?_; conv => whnf) | (refine lk_F8 ?_; conv => whnf))
    first | refine ⟨rfl, _, rfl, ?_⟩ | refine ⟨_, rfl, ?_⟩
    skip
    exact bad 5
  have hN : nbN y = (numV y : Nat) := by unfold nbN; rw [if_pos h5]
  rw [hN]
  conv => whnf
  repeat (first | (refine go_F8 ?_; conv => whnf) | (refine lk_F8 ?_; conv => whnf))
  first | refine ⟨_, _, rfl, sc_F8 (l02Amount_sat ((numV y : Nat) : Int)), ?_⟩ | refine .inl ⟨_, _, rfl, sc_F8 (l02Amount_sat ((numV y : Nat) : Int)), ?_⟩
  conv => whnf
  repeat (first | (refine go_F8 ?_; conv => whnf) | (refine lk_F8 ?_; conv => whnf))
  cases h6 : deepB ((numV y : Nat) : Int)
  · rw [bad5 hR (hnoi (by unfold wdB; rw [h5]; unfold deepB at h6; simp at h6 ⊢; omega))]
    conv => whnf
    repeat (first | (refine go_F8 ?_; conv => whnf) | (refine lk_F8 ?_; conv => whnf))
    first | refine ⟨rfl, _, rfl, ?_⟩ | refine ⟨_, rfl, ?_⟩
    skip
    exact bad 5
  have h1000 : numV y ≤ 1000 := by unfold deepB at h6; simp at h6; omega
  conv => whnf
  repeat (first | (refine go_F8 ?_; conv => whnf) | (refine lk_F8 ?_; conv => whnf))
  refine ⟨i + 1, ?_, ?_, sim_of (rn := [((4, 0, 0), (4, 0, 0)), ((7, 0, 0), (7, 0, 0)), ((15, 0, 0), (15, 0, 0))]) rfl ?_ ?_⟩
  · (dsimp only; omega)
  · exact nxt (by unfold wdB; rw [h5]; simp; omega)
  · exact hold_F8
  · ((repeat' (first | exact trivial | apply And.intro)) <;> ((first | refine ⟨_, _, rfl, rfl, ?_⟩ ); first | rfl | (exact cset (setA h1000))))
theorem implReadRain_sat (r : Roof) (hr : r.In) (l : List UInt8) (hl : l.length ≤ 1048576) : Sat Tryd.prog 27 [roofD r, .v (.string (bsOf l))] (rrV r l) := by
  have hz : (splice (List.replicate 17 (Value.int .i16 0)) 0 (List.replicate 17 (.int .i16 0))) = List.replicate 17 (.int .i16 0) := splice_all (by simp)
  have bad : ∀ x : Int, D.tup [raiD fun _ => 0, .v (.int .i64 x)] = one' [D.v (.agg ⟨(((splice (List.replicate 17 (Value.int .i16 0)) 0 (List.replicate 17 (.int .i16 0))).drop 0).take 17)⟩), .v (.int .i64 x)] := fun x => by
    rw [hz, take_drop0 (by simp)]; unfold raiD; rw [raiC_zero]; rfl
  have bad5 : okR r = true → rrOk r l = false → rrV r l = .tup [raiD fun _ => 0, .v (.int .i64 5)] := fun h1 h2 => by unfold rrV; rw [if_pos h1, if_neg (by simp [h2])]
  refine sat_of_wp hMix tOk Tryd.func27 rfl rfl Tryd.ntmps27 rfl rfl Tryd.results27 (by kernel_rfl) ?_
  conv => whnf
  repeat (first | (refine go_F8 ?_; conv => whnf) | (refine lk_F8 ?_; conv => whnf))
  first | refine ⟨_, _, rfl, sc_F8 (validRoof_sat r hr), ?_⟩ | refine .inl ⟨_, _, rfl, sc_F8 (validRoof_sat r hr), ?_⟩
  conv => whnf
  repeat (first | (refine go_F8 ?_; conv => whnf) | (refine lk_F8 ?_; conv => whnf))
  cases hR : okR r
  · conv => whnf
    repeat (first | (refine go_F8 ?_; conv => whnf) | (refine lk_F8 ?_; conv => whnf))
    first | refine ⟨rfl, _, rfl, ?_⟩ | refine ⟨_, rfl, ?_⟩
    skip
    unfold rrV; rw [hR]; exact bad 1
  have hb := okR_bounds hR
  conv => whnf
  repeat (first | (refine go_F8 ?_; conv => whnf) | (refine lk_F8 ?_; conv => whnf))
  first | refine ⟨_, _, rfl, sc_F8 (split_sat l hl 32), ?_⟩ | refine .inl ⟨_, _, rfl, sc_F8 (split_sat l hl 32), ?_⟩
  conv => whnf
  repeat (first | (refine go_F8 ?_; conv => whnf) | (refine lk_F8 ?_; conv => whnf))
  first | refine ⟨_, _, rfl, sc_F8 (cells_sat r hr hb), ?_⟩ | refine .inl ⟨_, _, rfl, sc_F8 (cells_sat r hr hb), ?_⟩
  conv => whnf
  repeat (first | (refine go_F8 ?_; conv => whnf) | (refine lk_F8 ?_; conv => whnf))
  have hlenM : (List.map bsOf (spl 32 l)).length = (rrW l).length := by rw [List.length_map]; rfl
  have hMs : (rrW l).length ≤ 1048577 := by unfold rrW; rw [spl_len, Lib.count_one]; have := List.count_le_length (a := (32 : UInt8)) (l := l); omega
  rw [hlenM]
  cases h2 : (((rrW l).length : Int) != 2 * r.w + 1)
  case true =>
    rw [bad5 hR (by unfold rrOk; rw [show decide (((rrW l).length : Int) = 2 * r.w + 1) = false by simpa using h2]; rfl)]
    conv => whnf
    repeat (first | (refine go_F8 ?_; conv => whnf) | (refine lk_F8 ?_; conv => whnf))
    first | refine ⟨rfl, _, rfl, ?_⟩ | refine ⟨_, rfl, ?_⟩
    skip
    exact bad 5
  have hLw : ((rrW l).length : Int) = 2 * r.w + 1 := by simpa using h2
  have hget : ∀ i, sx ((spl 32 l).map bsOf) i = bsOf ((rrW l).getD i []) := fun i => sx_map _ _
  have hyl : ∀ i, ((rrW l).getD i []).length ≤ l.length := fun i => spl_at i
  have hyes := rr_yes hLw
  have hno := fun (i : Nat) => rr_no (r := r) (l := l) (i := i)
  have hF : ∀ c : Nat, rrF l c = ((numV ((rrW l).getD c []) : Nat) : Int) := fun _ => rfl
  have hmix := rrF_mix l
  generalize hws : (spl 32 l).map bsOf = ws at *
  generalize hLL : rrW l = L at *
  conv => whnf
  repeat (first | (refine go_F8 ?_; conv => whnf) | (refine lk_F8 ?_; conv => whnf))
  refine loop_rule (α := Nat) (fun i => [(4, .ptr (4, 0, 0) 0), (7, .ptr (7, 0, 0) 0), (24, .slc true 1 (17, 0, 0) 0 ws.length), (25, .v (.int .i64 ws.length)), (26, .v (.int .i64 i))]) (fun i => [((4, 0, 0), .v (.agg ⟨List.replicate 17 (.int .i16 0)⟩)), ((7, 0, 0), raiD (mix (rrF l) (fun _ => 0) i)), ((17, 0, 0), .v (.agg ⟨strsC ws⟩))]) (fun i => i ≤ L.length ∧ ∀ j, j < i → wdB (L.getD j []) = true) (fun i => L.length - i) (0) ?_ (sim_of (rn := [((4, 0, 0), (4, 0, 0)), ((7, 0, 0), (7, 0, 0)), ((17, 0, 0), (17, 0, 0))]) rfl ?_ ?_) ?_
  · exact ⟨by omega, fun j hj => by omega⟩
  · exact hold_F8
  · ((repeat' (first | exact trivial | apply And.intro)) <;> ((first | refine ⟨_, _, rfl, rfl, ?_⟩ ); first | rfl | (exact cset (by rw [mix_zero, raiC_zero]))))
  rintro i ⟨hi, hall⟩
  conv => whnf
  repeat (first | (refine go_F8 ?_; conv => whnf) | (refine lk_F8 ?_; conv => whnf))
  cases h4 : decide ((i : Int) < (ws.length : Int))
  · have hiK : i = L.length := by simp at h4; omega
    subst hiK
    rw [show rrV r l = .tup [raiD (rrF l), .v (.int .i64 0)] by unfold rrV; rw [if_pos hR, if_pos (hyes hall)]]
    rw [hmix]
    conv => whnf
    repeat (first | (refine go_F8 ?_; conv => whnf) | (refine lk_F8 ?_; conv => whnf))
    first | refine ⟨rfl, _, rfl, ?_⟩ | refine ⟨_, rfl, ?_⟩
    skip
    exact congrArg (fun z => D.tup [D.v (.agg ⟨z⟩), .v (.int .i64 0)]) (copied (n := 17) (by simp) (by simp)).symm
  have hiK : i < L.length := by simp at h4; omega
  have hi17 : i < 17 := by omega
  have hgi : sx ws ((i : Int).toNat * ti9.size) = bsOf (L.getD i []) := by
    show sx ws ((i : Int).toNat * 1) = _
    rw [show (i : Int).toNat * 1 = i by omega]; exact hget i
  have hnoi := hno i hiK
  have hyi := hyl i
  have hFi := hF i
  have nxt := fun h => (⟨by omega, below_succ (p := fun j => wdB (L.getD j []) = true) hall h⟩ : i + 1 ≤ L.length ∧ ∀ j, j < i + 1 → wdB (L.getD j []) = true)
  generalize L.getD i [] = y at *
  have setA : numV y ≤ 1000 → (raiC (mix (rrF l) (fun _ => 0) i)).set (0 + (i : Int).toNat * 1) (.int .i16 (IntKind.i16.wrap ((numV y : Nat) : Int))) = raiC (mix (rrF l) (fun _ => 0) (i + 1)) := fun h => by
    rw [show 0 + (i : Int).toNat * 1 = i by omega, w16 (by omega) (by omega), ← hFi, rai_set rfl, mix_put]
  conv => whnf
  repeat (first | (refine go_F8 ?_; conv => whnf) | (refine lk_F8 ?_; conv => whnf))
  rw [hgi]
  have hwd := rd_wd y
  have hval := rd_val (l := y)
  first | refine ⟨_, _, rfl, sc_F8 (readDec_sat y (by omega)), ?_⟩ | refine .inl ⟨_, _, rfl, sc_F8 (readDec_sat y (by omega)), ?_⟩
  conv => whnf
  repeat (first | (refine go_F8 ?_; conv => whnf) | (refine lk_F8 ?_; conv => whnf))
  cases h5 : rdB y
  · rw [h5, Bool.false_and] at hwd
    rw [bad5 hR (hnoi hwd.symm)]
    conv => whnf
    repeat (first | (refine go_F8 ?_; conv => whnf) | (refine lk_F8 ?_; conv => whnf))
    first | refine ⟨rfl, _, rfl, ?_⟩ | refine ⟨_, rfl, ?_⟩
    skip
    exact bad 5
  rw [h5, Bool.true_and] at hwd
  conv => whnf
  repeat (first | (refine go_F8 ?_; conv => whnf) | (refine lk_F8 ?_; conv => whnf))
  first | refine ⟨_, _, rfl, sc_F8 (isAmount64_sat (rdN y)), ?_⟩ | refine .inl ⟨_, _, rfl, sc_F8 (isAmount64_sat (rdN y)), ?_⟩
  conv => whnf
  repeat (first | (refine go_F8 ?_; conv => whnf) | (refine lk_F8 ?_; conv => whnf))
  cases h6 : deepB (rdN y)
  · rw [h6] at hwd
    rw [bad5 hR (hnoi hwd.symm)]
    conv => whnf
    repeat (first | (refine go_F8 ?_; conv => whnf) | (refine lk_F8 ?_; conv => whnf))
    first | refine ⟨rfl, _, rfl, ?_⟩ | refine ⟨_, rfl, ?_⟩
    skip
    exact bad 5
  rw [h6] at hwd
  have hw2 : nbB y = true ∧ numV y ≤ 1000 := by
    have := hwd.symm
    unfold wdB at this
    simp at this
    exact ⟨this.1, by omega⟩
  rw [(hval hw2.1 (by omega)).1]
  conv => whnf
  repeat (first | (refine go_F8 ?_; conv => whnf) | (refine lk_F8 ?_; conv => whnf))
  refine ⟨i + 1, ?_, ?_, sim_of (rn := [((4, 0, 0), (4, 0, 0)), ((7, 0, 0), (7, 0, 0)), ((17, 0, 0), (17, 0, 0))]) rfl ?_ ?_⟩
  · (dsimp only; omega)
  · exact nxt hwd.symm
  · exact hold_F8
  · ((repeat' (first | exact trivial | apply And.intro)) <;> ((first | refine ⟨_, _, rfl, rfl, ?_⟩ ); first | rfl | (exact cset (setA hw2.2))))
theorem fnExactReadRain_sat (r : Roof) (hr : r.In) (b : ByteArray) : Sat Tryd.prog 7 [roofD r, .v (.string b)] (.v (.bool true)) := by
  rw [bs_of b]
  generalize b.data.toList = l
  refine sat_of_wp hMix tOk Tryd.func7 rfl rfl Tryd.ntmps7 rfl rfl Tryd.results7 (by kernel_rfl) ?_
  conv => whnf
  repeat (first | (refine go_F8 ?_; conv => whnf) | (refine lk_F8 ?_; conv => whnf))
  cases hlong : decide (((bsOf l).size : Int) > 1048576)
  case true =>
    conv => whnf
    repeat (first | (refine go_F8 ?_; conv => whnf) | (refine lk_F8 ?_; conv => whnf))
    first | refine ⟨rfl, _, rfl, ?_⟩ | refine ⟨_, rfl, ?_⟩
    rfl
  have hl : l.length ≤ 1048576 := by simp at hlong; omega
  have s1 := specReadRain_sat r hr l hl
  have s2 := implReadRain_sat r hr l hl
  obtain ⟨f, K, hV⟩ : ∃ f K, rrV r l = .tup [raiD f, .v (.int .i64 K)] := by
    unfold rrV
    split
    · split
      · exact ⟨_, _, rfl⟩
      · exact ⟨_, _, rfl⟩
    · exact ⟨_, _, rfl⟩
  rw [hV] at s1 s2
  have hne : (K != K) = false := by simp
  conv => whnf
  repeat (first | (refine go_F8 ?_; conv => whnf) | (refine lk_F8 ?_; conv => whnf))
  first | refine ⟨_, _, rfl, sc_F8 (toRoof_sat r), ?_⟩ | refine .inl ⟨_, _, rfl, sc_F8 (toRoof_sat r), ?_⟩
  conv => whnf
  repeat (first | (refine go_F8 ?_; conv => whnf) | (refine lk_F8 ?_; conv => whnf))
  first | refine ⟨_, _, rfl, sc_F8 (s1), ?_⟩ | refine .inl ⟨_, _, rfl, sc_F8 (s1), ?_⟩
  conv => whnf
  repeat (first | (refine go_F8 ?_; conv => whnf) | (refine lk_F8 ?_; conv => whnf))
  first | refine ⟨_, _, rfl, sc_F8 (toRoof_sat r), ?_⟩ | refine .inl ⟨_, _, rfl, sc_F8 (toRoof_sat r), ?_⟩
  conv => whnf
  repeat (first | (refine go_F8 ?_; conv => whnf) | (refine lk_F8 ?_; conv => whnf))
  first | refine ⟨_, _, rfl, sc_F8 (s2), ?_⟩ | refine .inl ⟨_, _, rfl, sc_F8 (s2), ?_⟩
  conv => whnf
  repeat (first | (refine go_F8 ?_; conv => whnf) | (refine lk_F8 ?_; conv => whnf))
  first | refine ⟨_, _, rfl, sc_F8 (eqRain_same f), ?_⟩ | refine .inl ⟨_, _, rfl, sc_F8 (eqRain_same f), ?_⟩
  conv => whnf
  repeat (first | (refine go_F8 ?_; conv => whnf) | (refine lk_F8 ?_; conv => whnf))
  rw [hne]
  conv => whnf
  repeat (first | (refine go_F8 ?_; conv => whnf) | (refine lk_F8 ?_; conv => whnf))
  first | refine ⟨rfl, _, rfl, ?_⟩ | refine ⟨_, rfl, ?_⟩
  rfl
end Go.Proofs.YtdbhfobnmlogeaaDoor
