import Derived.Test.YtdbhfobnmlogeaaDoorP1
set_option linter.unusedVariables false
set_option linter.unusedSimpArgs false
/- Numbers and rain read from their texts: plain words, both sides, and the law on rain. -/
set_option linter.unusedVariables false
set_option linter.unusedSimpArgs false
namespace Go.V
/- Words for the walks of this text: their default arguments are tried where they are used. -/
theorem go_F8 {P Q : Prop} (k : Q) (h : P := by first | exact strOk (by first | omega | (simp; omega)) | exact Nat.le_of_ble_eq_true rfl | exact rfl | decide | omega | (simp [splice]; done) | (constructor <;> omega) | (simp [splice]; omega)) : P ∧ Q := ⟨h, k⟩
theorem lk_F8 {α : Type} {o : Option α} {K : α → Prop} {x : α} (k : K x) (h : o = some x := by first | exact strA (by simp; omega) | exact strA' (by simp; omega) | exact raiA (by omega) | exact raiA' (by omega) | exact roofN (by omega) (by omega)) : optK o K := optK_of h k
theorem leaf_F8 {P : Prop} (h : P := by first | rfl | exact succ8 (by omega) | exact succ64 (by omega) | exact CapOk.fn (by assumption) _ _ | exact vintS (by omega) | exact vintS (by rw [w64 (by omega) (by omega)]; omega) | exact vintS (by rw [w8 (by omega) (by omega)]; omega) | exact vslcS (by omega) | exact vslcS (by simp)) : P := h
end Go.V
namespace Go.V
/-! Numerals. -/
def isDg (b : UInt8) : Bool := decide (48 ≤ b.toNat) && decide (b.toNat ≤ 57)
def numV (l : List UInt8) : Nat := l.foldl (fun n b => 10 * n + (b.toNat - 48)) 0
theorem numV_snoc (l : List UInt8) (b : UInt8) : numV (l ++ [b]) = 10 * numV l + (b.toNat - 48) := by unfold numV; rw [List.foldl_append]; rfl
/-- A numeral as the reference takes it. -/
def nbB (l : List UInt8) : Bool := !l.isEmpty && decide (l.length ≤ 10) && !(l.getD 0 0 == 48 && decide (1 < l.length)) && l.all isDg
theorem dig_of {d : Nat} (h : d < 10) : (UInt8.ofNat (48 + d)).toNat = 48 + d := by simp [UInt8.toNat_ofNat']; omega
theorem dec_dig : ∀ (n : Nat), (Lib.decDigits n).all isDg = true := by
  intro n
  induction n using Nat.strongRecOn with
  | _ n ih =>
    by_cases h : n < 10
    · rw [Lib.decDigits_one h]; simp [isDg, dig_of h]; omega
    · rw [Lib.decDigits, dif_neg h, List.all_append, ih (n / 10) (by omega)]
      simp [isDg, dig_of (show n % 10 < 10 by omega)]; omega
theorem dec_num : ∀ (n : Nat), numV (Lib.decDigits n) = n := by
  intro n
  induction n using Nat.strongRecOn with
  | _ n ih =>
    by_cases h : n < 10
    · rw [Lib.decDigits_one h]
      have hd := dig_of h
      show 10 * 0 + ((UInt8.ofNat (48 + n)).toNat - 48) = n
      rw [hd]; omega
    · rw [Lib.decDigits, dif_neg h, numV_snoc, ih (n / 10) (by omega), dig_of (by omega)]; omega
theorem dec_ne (n : Nat) : Lib.decDigits n ≠ [] := by
  intro h
  have := Lib.decDigits_length n
  rw [h] at this
  have h2 := Lib.nDigits_pos n
  simp at this; omega
theorem dec_head : ∀ (n : Nat), 1 ≤ n → (Lib.decDigits n).getD 0 0 ≠ 48 := by
  intro n
  induction n using Nat.strongRecOn with
  | _ n ih =>
    intro hn
    by_cases h : n < 10
    · rw [Lib.decDigits_one h]
      intro e
      have h2 := dig_of h
      have e2 : UInt8.ofNat (48 + n) = 48 := e
      rw [e2] at h2
      have h3 : (48 : UInt8).toNat = 48 := rfl
      omega
    · rw [Lib.decDigits, dif_neg h]
      have h2 := ih (n / 10) (by omega) (by omega)
      have h3 := dec_ne (n / 10)
      cases hd : Lib.decDigits (n / 10) with
      | nil => exact absurd hd h3
      | cons a r => rw [hd] at h2; simpa using h2
theorem dec_nb {n : Nat} (h : n < 10 ^ 10) : nbB (Lib.decDigits n) = true := by
  unfold nbB
  rw [dec_dig n, Bool.and_true, Bool.and_eq_true, Bool.and_eq_true]
  refine ⟨⟨?_, ?_⟩, ?_⟩
  · have := dec_ne n
    cases hd : Lib.decDigits n with
    | nil => exact absurd hd this
    | cons a r => rfl
  · have := dec_len h (by omega)
    simpa using this
  · by_cases h1 : n < 10
    · rw [Lib.decDigits_one h1]; simp
    · have := dec_head n (by omega)
      have h2 : ((Lib.decDigits n).getD 0 0 == 48) = false := by simpa using this
      rw [h2]; rfl
theorem digOf_toNat {b : UInt8} (h : isDg b = true) : UInt8.ofNat (48 + (b.toNat - 48)) = b := by
  unfold isDg at h
  simp at h
  rw [show 48 + (b.toNat - 48) = b.toNat by omega]
  exact UInt8.ofNat_toNat
theorem num_dec : ∀ (k : Nat) (l : List UInt8), l.length = k → l ≠ [] → (l.getD 0 0 = 48 → l.length = 1) → l.all isDg = true → Lib.decDigits (numV l) = l := by
  intro k
  induction k with
  | zero => intro l h1 h2; simp at h1; exact absurd h1 h2
  | succ k ih =>
    intro l h1 h2 h3 h4
    have e := (List.dropLast_concat_getLast h2).symm
    generalize l.dropLast = x at e
    generalize l.getLast h2 = b at e
    subst e
    rw [List.all_append, Bool.and_eq_true] at h4
    have hb : isDg b = true := by simpa using h4.2
    rw [numV_snoc]
    have hb2 : b.toNat - 48 < 10 := by unfold isDg at hb; simp at hb; omega
    cases x with
    | nil =>
      simp only [numV, List.foldl_nil, List.nil_append]
      rw [Lib.decDigits_one (by omega), show 48 + (10 * 0 + (b.toNat - 48)) = 48 + (b.toNat - 48) by omega, digOf_toNat hb]
    | cons a r =>
      have hh : ¬ a = 48 := fun e => by
        have := h3 (by simpa using e)
        simp at this
      have hx := ih (a :: r) (by simp at h1 ⊢; omega) (by simp) (fun e => absurd (by simpa using e) hh) h4.1
      have hp : 1 ≤ numV (a :: r) := by
        by_cases h0 : numV (a :: r) = 0
        · rw [h0, Lib.decDigits_one (by omega)] at hx
          simp at hx
          exact absurd hx.1.symm hh
        · omega
      rw [Lib.decDigits, dif_neg (by omega), show (10 * numV (a :: r) + (b.toNat - 48)) / 10 = numV (a :: r) by omega, hx, show (10 * numV (a :: r) + (b.toNat - 48)) % 10 = b.toNat - 48 by omega, digOf_toNat hb]
theorem nb_dec {l : List UInt8} (h : nbB l = true) : Lib.decDigits (numV l) = l := by
  unfold nbB at h
  rw [Bool.and_eq_true, Bool.and_eq_true, Bool.and_eq_true] at h
  obtain ⟨⟨⟨h1, h2⟩, h3⟩, h4⟩ := h
  refine num_dec _ l rfl (by intro e; rw [e] at h1; simp at h1) (fun e => ?_) h4
  have : (l.getD 0 0 == 48) = true := by rw [e]; rfl
  rw [this, Bool.true_and] at h3
  have hl : 1 ≤ l.length := List.length_pos_iff.2 (by intro e; rw [e] at h1; simp at h1)
  simp at h3; omega
/-! The kit's words for a number that is read. -/
theorem pM_append {M : Nat} : ∀ (x y : List UInt8) (a b : Nat), Lib.parseUintM M a x = .ok b → Lib.parseUintM M a (x ++ y) = Lib.parseUintM M b y
  | [], y, a, b, h => by simp only [Lib.parseUintM, Lib.NumEnd.ok.injEq] at h; rw [h]; rfl
  | c :: x, y, a, b, h => by
    simp only [Lib.parseUintM, List.cons_append] at h ⊢
    split at h
    · split at h
      · cases h
      · split at h
        · cases h
        · rename_i h1 h2 h3
          rw [if_pos h1, if_neg h2, if_neg h3]
          exact pM_append x y _ b h
    · cases h
theorem pM_dec : ∀ (n : Nat), n ≤ 18446744073709551615 → Lib.parseUintM 18446744073709551615 0 (Lib.decDigits n) = .ok n := by
  intro n
  induction n using Nat.strongRecOn with
  | _ n ih =>
    intro hn
    by_cases h : n < 10
    · rw [Lib.decDigits_one h]
      have hd := dig_of h
      simp only [Lib.parseUintM, hd]
      rw [if_pos (by omega), if_neg (by omega), if_neg (by omega)]
      simp
    · rw [Lib.decDigits, dif_neg h, pM_append _ _ _ _ (ih (n / 10) (by omega) (by omega))]
      have hd := dig_of (d := n % 10) (by omega)
      simp only [Lib.parseUintM, hd]
      rw [if_pos (by omega), if_neg (by omega), if_neg (by omega)]
      congr 1; omega
theorem parse_dec {n : Nat} (h : n ≤ 9223372036854775807) : Lib.parseIntB 64 (Lib.decDigits n) = .ok (n : Int) := by
  have hne := dec_ne n
  have hp := pM_dec n (by omega)
  have hdg := dec_dig n
  cases hd : Lib.decDigits n with
  | nil => exact absurd hd hne
  | cons c r =>
    rw [hd] at hp hdg
    have hc : isDg c = true := by simp at hdg; exact hdg.1
    unfold isDg at hc
    simp at hc
    simp only [Lib.parseIntB]
    rw [if_neg (by omega)]
    have hu : Lib.parseUintB 64 (c :: r) = .ok n := by
      unfold Lib.parseUintB
      rw [if_neg (by simp)]
      exact hp
    rw [hu]
    simp only
    rw [if_neg (by omega), if_neg (by omega), if_neg (by omega)]
def nbN (l : List UInt8) : Int := if nbB l = true then (numV l : Int) else 0
theorem numV_lt {l : List UInt8} (h : l.all isDg = true) : numV l < 10 ^ l.length := by
  generalize hk : l.length = k
  induction k generalizing l with
  | zero => have : l = [] := List.length_eq_zero_iff.1 hk; subst this; simp [numV]
  | succ k ih =>
    have hne : l ≠ [] := by intro e; rw [e] at hk; simp at hk
    have e := (List.dropLast_concat_getLast hne).symm
    generalize l.dropLast = x at e
    generalize l.getLast hne = b at e
    subst e
    rw [List.all_append, Bool.and_eq_true] at h
    have hb : isDg b = true := by simpa using h.2
    have := ih h.1 (by simp at hk; omega)
    unfold isDg at hb
    simp at hb
    rw [numV_snoc, Nat.pow_succ]; omega
theorem dg_take {l : List UInt8} {i : Nat} (hi : i < l.length) (h : (l.take i).all isDg = true) (hb : isDg (l.getD i 0) = true) : (l.take (i + 1)).all isDg = true ∧ numV (l.take (i + 1)) = 10 * numV (l.take i) + ((l.getD i 0).toNat - 48) := by
  have e : l.take (i + 1) = l.take i ++ [l.getD i 0] := by rw [List.take_add_one, List.getD_eq_getElem?_getD]; simp [hi]
  rw [e, numV_snoc, List.all_append, h]
  exact ⟨by simp only [List.all_cons, List.all_nil, Bool.and_true, Bool.true_and]; exact hb, rfl⟩
theorem nbB_len {l : List UInt8} (h : (l.isEmpty || decide (10 < l.length) || (l.getD 0 0 == 48 && decide (1 < l.length))) = true) : nbB l = false := by
  unfold nbB
  simp only [Bool.or_eq_true] at h
  rcases h with (h | h) | h
  · rw [h]; rfl
  · have : decide (l.length ≤ 10) = false := by simp at h ⊢; omega
    rw [this]; simp
  · rw [h]; simp
theorem nbB_dig {l : List UInt8} {i : Nat} (hi : i < l.length) (hb : isDg (l.getD i 0) = false) : nbB l = false := by
  unfold nbB
  have : l.all isDg = false := by
    rw [List.all_eq_false]
    exact ⟨l.getD i 0, by rw [List.getD_eq_getElem?_getD, List.getElem?_eq_getElem hi]; exact List.getElem_mem hi, by rw [hb]; exact Bool.false_ne_true⟩
  rw [this, Bool.and_false]
theorem spl_in {c : UInt8} : ∀ {l : List UInt8} {x : List UInt8}, x ∈ spl c l → x.length ≤ l.length
  | [], x, h => by simp [spl] at h; subst h; simp
  | b :: l, x, h => by
    by_cases hb : b = c
    · subst hb
      rw [spl_hit] at h
      rcases List.mem_cons.1 h with rfl | h
      · simp
      · have := spl_in h; simp; omega
    · cases hs : spl c l with
      | nil => exact absurd hs (spl_ne c l)
      | cons y ys =>
        rw [spl_miss hb hs] at h
        rcases List.mem_cons.1 h with rfl | h
        · have := spl_in (c := c) (l := l) (x := y) (by rw [hs]; simp); simp; omega
        · have := spl_in (c := c) (l := l) (x := x) (by rw [hs]; simp [h]); simp; omega
theorem spl_at {c : UInt8} {l : List UInt8} (i : Nat) : ((spl c l).getD i []).length ≤ l.length := by
  rw [List.getD_eq_getElem?_getD]
  cases h : (spl c l)[i]? with
  | none => simp
  | some x => exact spl_in (List.mem_of_getElem? h)
end Go.V
namespace Go.Proofs.YtdbhfobnmlogeaaDoor
open Go.V
theorem rd_dec {n : Nat} (h : n ≤ 9223372036854775807) : rdN (Lib.decDigits n) = n ∧ rdB (Lib.decDigits n) = true := by
  unfold rdN rdB
  rw [parse_dec h]
  refine ⟨rfl, ?_⟩
  have e : decB (n : Int) = bsOf (Lib.decDigits n) := by unfold decB; rw [Lib.itoa]; rw [if_neg (by omega)]; simp
  simp [e]
theorem rd_yes {l : List UInt8} (h : rdB l = true) : 0 ≤ rdN l ∧ l = Lib.decDigits (rdN l).toNat := by
  unfold rdB at h
  split at h
  · rename_i v hv
    have e : rdN l = v := by unfold rdN; rw [hv]
    rw [e]
    rw [Bool.and_eq_true] at h
    have h1 : 0 ≤ v := by simpa using h.1
    refine ⟨h1, ?_⟩
    have h2 := h.2
    rw [decB_nn h1, bs_toList, bs_toList] at h2
    simpa using (by simpa using h2 : Lib.decDigits v.toNat = l).symm
  · cases h
/-- A number of at most 1000 is read by both sides alike. -/
theorem rd_nb (l : List UInt8) (m : Int) (hm : m ≤ 1000000000) : (rdB l && decide (rdN l ≤ m)) = (nbB l && decide ((numV l : Int) ≤ m)) := by
  rw [Bool.eq_iff_iff, Bool.and_eq_true, Bool.and_eq_true, decide_eq_true_eq, decide_eq_true_eq]
  constructor
  · rintro ⟨h1, h2⟩
    obtain ⟨h3, h4⟩ := rd_yes h1
    have hlt : (rdN l).toNat < 10 ^ 10 := by omega
    have h5 := dec_nb hlt
    have h6 := dec_num (rdN l).toNat
    rw [← h4] at h5 h6
    exact ⟨h5, by omega⟩
  · rintro ⟨h1, h2⟩
    have h3 := nb_dec h1
    have h4 := rd_dec (n := numV l) (by omega)
    rw [h3] at h4
    exact ⟨h4.2, by rw [h4.1]; exact h2⟩
theorem rd_val {l : List UInt8} (h : nbB l = true) (hm : numV l ≤ 1000000000) : rdN l = numV l ∧ rdB l = true := by
  have h3 := nb_dec h
  have h4 := rd_dec (n := numV l) (by omega)
  rw [h3] at h4
  exact h4
theorem l01Number_sat (l : List UInt8) (hl : l.length ≤ 1048576) : Sat Tryd.prog 82 [.v (.string (bsOf l))] (.tup [.v (.int .i64 (nbN l)), .v (.bool (nbB l))]) := by
  have c1 : ((bsOf l).toList == (⟨#[]⟩ : ByteArray).toList) = l.isEmpty := by rw [bs_toList, show (⟨#[]⟩ : ByteArray).toList = [] from bs_toList []]; cases l <;> rfl
  have c2 : decide (((bsOf l).size : Int) > 10) = decide (10 < l.length) := by rw [bs_size, Bool.eq_iff_iff]; simp; omega
  have c4 : decide (((bsOf l).size : Int) > 1) = decide (1 < l.length) := by rw [bs_size, Bool.eq_iff_iff]; simp; omega
  have c3 : (byteAt (bsOf l) 0 == 48) = (l.getD 0 0 == 48) := by
    have : (byteAt (bsOf l) 0 == 48) = decide (l.getD 0 0 = 48) := byteIs 48 (by omega)
    rw [this, Bool.eq_iff_iff]; simp
  have bad : nbB l = false → D.tup [.v (.int .i64 (nbN l)), .v (.bool (nbB l))] = D.tup [.v (.int .i64 0), .v (.bool false)] := fun h => by unfold nbN; rw [if_neg (by simp [h]), h]
  have lenB := nbB_len (l := l)
  refine sat_of_wp hMix tOk Tryd.func82 rfl rfl Tryd.ntmps82 rfl rfl Tryd.results82 (by kernel_rfl) ?_
  conv => whnf
  repeat (first | (refine go_F8 ?_; conv => whnf) | (refine lk_F8 ?_; conv => whnf))
  rw [c1]
  cases h1 : l.isEmpty
  case true =>
    rw [bad (lenB (by rw [h1]; rfl))]
    conv => whnf
    repeat (first | (refine go_F8 ?_; conv => whnf) | (refine lk_F8 ?_; conv => whnf))
    first | refine ⟨rfl, _, rfl, ?_⟩ | refine ⟨_, rfl, ?_⟩
    rfl
  have hpos : 0 < l.length := List.length_pos_iff.2 (by intro e; rw [e] at h1; cases h1)
  conv => whnf
  repeat (first | (refine go_F8 ?_; conv => whnf) | (refine lk_F8 ?_; conv => whnf))
  rw [c2]
  cases h2 : decide (10 < l.length)
  case true =>
    rw [bad (lenB (by rw [h2]; simp))]
    conv => whnf
    repeat (first | (refine go_F8 ?_; conv => whnf) | (refine lk_F8 ?_; conv => whnf))
    first | refine ⟨rfl, _, rfl, ?_⟩ | refine ⟨_, rfl, ?_⟩
    rfl
  have h10 : l.length ≤ 10 := by simpa using h2
  conv => whnf
  refine ⟨⟨by omega, by rw [bs_size]; omega⟩, ?_⟩
  conv => whnf
  rw [show byteAt (bsOf l) (0 : Int).toNat = byteAt (bsOf l) 0 from rfl, c3]
  have key : (l.getD 0 0 == 48 && decide (1 < l.length)) = true → nbB l = false := fun h => lenB (by rw [h]; simp)
  have body : (l.getD 0 0 == 48 && decide (1 < l.length)) = false → (∀ K : Int → Bool → Prop, True) := fun _ _ => trivial
  have hn0 : (l.getD 0 0 == 48 && decide (1 < l.length)) = false → l.all isDg = true → nbB l = true := fun h h2 => by
    unfold nbB; rw [h1, h, h2]; simpa using h10
  cases h3 : (l.getD 0 0 == 48)
  case false =>
    rw [h3, Bool.false_and] at hn0
    conv => whnf
    repeat (first | (refine go_F8 ?_; conv => whnf) | (refine lk_F8 ?_; conv => whnf))
    refine loop_rule (α := Nat) (fun i => [(0, .v (.string (bsOf l))), (4, .v (.int .i64 (numV (l.take i) : Nat))), (5, .v (.int .i64 i))]) (fun i => []) (fun i => i ≤ l.length ∧ (l.take i).all isDg = true) (fun i => l.length - i) (0) ?_ (sim_of (rn := []) rfl ?_ ?_) ?_
    · exact ⟨by omega, rfl⟩
    · ((repeat' (first | exact trivial | apply And.intro)) <;> (first | rfl | (rfl) | exact leaf_F8))
    · ((repeat' (first | exact trivial | apply And.intro)) <;> ((first | refine ⟨_, _, rfl, rfl, ?_⟩ ); rfl))
    rintro i ⟨hi, hall⟩
    conv => whnf
    repeat (first | (refine go_F8 ?_; conv => whnf) | (refine lk_F8 ?_; conv => whnf))
    cases h5 : decide ((i : Int) < ((bsOf l).size : Int))
    · have hil : i = l.length := by simp at h5; omega
      subst hil
      rw [List.take_length] at hall ⊢
      have hy : nbB l = true := hn0 rfl hall
      rw [show nbN l = (numV l : Nat) by unfold nbN; rw [if_pos hy], hy]
      conv => whnf
      repeat (first | (refine go_F8 ?_; conv => whnf) | (refine lk_F8 ?_; conv => whnf))
      first | refine ⟨rfl, _, rfl, ?_⟩ | refine ⟨_, rfl, ?_⟩
      rfl
    have hil : i < l.length := by simpa using h5
    have hpw : 10 ^ (l.take i).length ≤ 10 ^ 10 := Nat.pow_le_pow_right (by omega) (by rw [List.length_take]; omega)
    have hnl := numV_lt hall
    have hdt := dg_take hil hall
    have hnd := nbB_dig hil
    have hbb := (l.getD i 0).toNat_lt
    have hbt := byteAt_bs l i
    generalize hbd : l.getD i 0 = b at *
    conv => whnf
    repeat (first | (refine go_F8 ?_; conv => whnf) | (refine lk_F8 ?_; conv => whnf))
    try rw [show byteAt (bsOf l) (i : Int).toNat = byteAt (bsOf l) i by rw [Int.toNat_natCast]]
    rw [hbt]
    cases h6 : decide ((b.toNat : Int) < 48)
    case true =>
      rw [bad (hnd (by unfold isDg; rw [show decide (48 ≤ b.toNat) = false by simp at h6 ⊢; omega]; rfl))]
      conv => whnf
      repeat (first | (refine go_F8 ?_; conv => whnf) | (refine lk_F8 ?_; conv => whnf))
      first | refine ⟨rfl, _, rfl, ?_⟩ | refine ⟨_, rfl, ?_⟩
      rfl
    have h6' : 48 ≤ b.toNat := by simp at h6; omega
    conv => whnf
    repeat (first | (refine go_F8 ?_; conv => whnf) | (refine lk_F8 ?_; conv => whnf))
    try rw [show byteAt (bsOf l) (i : Int).toNat = byteAt (bsOf l) i by rw [Int.toNat_natCast]]
    try rw [hbt]
    cases h7 : decide ((b.toNat : Int) > 57)
    case true =>
      rw [bad (hnd (by unfold isDg; rw [show decide (b.toNat ≤ 57) = false by simp at h7 ⊢; omega, Bool.and_false]))]
      conv => whnf
      repeat (first | (refine go_F8 ?_; conv => whnf) | (refine lk_F8 ?_; conv => whnf))
      first | refine ⟨rfl, _, rfl, ?_⟩ | refine ⟨_, rfl, ?_⟩
      rfl
    have h7' : b.toNat ≤ 57 := by simp at h7; omega
    have hdt' := hdt (by unfold isDg; rw [decide_eq_true h6', decide_eq_true h7']; rfl)
    conv => whnf
    repeat (first | (refine go_F8 ?_; conv => whnf) | (refine lk_F8 ?_; conv => whnf))
    try rw [show byteAt (bsOf l) (i : Int).toNat = byteAt (bsOf l) i by rw [Int.toNat_natCast]]
    try rw [hbt]
    have e1 : IntKind.u8.wrap ((b.toNat : Int) - 48) = ((b.toNat - 48 : Nat) : Int) := by rw [wu8 (by omega) (by omega)]; omega
    have e2 : IntKind.i64.wrap (10 * ((numV (l.take i) : Nat) : Int)) = 10 * ((numV (l.take i) : Nat) : Int) := w64 (by omega) (by omega)
    have e3 : IntKind.i64.wrap (10 * ((numV (l.take i) : Nat) : Int) + IntKind.i64.wrap (IntKind.u8.wrap ((b.toNat : Int) - 48))) = ((numV (l.take (i + 1)) : Nat) : Int) := by
      rw [e1, w64 (n := ((b.toNat - 48 : Nat) : Int)) (by omega) (by omega), w64 (by omega) (by omega), hdt'.2]; omega
    refine ⟨i + 1, ?_, ?_, sim_of (rn := []) rfl ?_ ?_⟩
    · (dsimp only; omega)
    · exact ⟨by omega, hdt'.1⟩
    · ((repeat' (first | exact trivial | apply And.intro)) <;> (first | rfl | (exact vintS (by rw [e2, e3])) | exact leaf_F8))
    · ((repeat' (first | exact trivial | apply And.intro)) <;> ((first | refine ⟨_, _, rfl, rfl, ?_⟩ ); rfl))
  case true =>
    rw [h3, Bool.true_and] at hn0 key
    conv => whnf
    rw [c4]
    cases h4 : decide (1 < l.length)
    case true =>
      rw [bad (key h4)]
      conv => whnf
      repeat (first | (refine go_F8 ?_; conv => whnf) | (refine lk_F8 ?_; conv => whnf))
      first | refine ⟨rfl, _, rfl, ?_⟩ | refine ⟨_, rfl, ?_⟩
      rfl
    rw [h4] at hn0
    conv => whnf
    repeat (first | (refine go_F8 ?_; conv => whnf) | (refine lk_F8 ?_; conv => whnf))
    refine loop_rule (α := Nat) (fun i => [(0, .v (.string (bsOf l))), (4, .v (.int .i64 (numV (l.take i) : Nat))), (5, .v (.int .i64 i))]) (fun i => []) (fun i => i ≤ l.length ∧ (l.take i).all isDg = true) (fun i => l.length - i) (0) ?_ (sim_of (rn := []) rfl ?_ ?_) ?_
    · exact ⟨by omega, rfl⟩
    · ((repeat' (first | exact trivial | apply And.intro)) <;> (first | rfl | (rfl) | exact leaf_F8))
    · ((repeat' (first | exact trivial | apply And.intro)) <;> ((first | refine ⟨_, _, rfl, rfl, ?_⟩ ); rfl))
    rintro i ⟨hi, hall⟩
    conv => whnf
    repeat (first | (refine go_F8 ?_; conv => whnf) | (refine lk_F8 ?_; conv => whnf))
    cases h5 : decide ((i : Int) < ((bsOf l).size : Int))
    · have hil : i = l.length := by simp at h5; omega
      subst hil
      rw [List.take_length] at hall ⊢
      have hy : nbB l = true := hn0 rfl hall
      rw [show nbN l = (numV l : Nat) by unfold nbN; rw [if_pos hy], hy]
      conv => whnf
      repeat (first | (refine go_F8 ?_; conv => whnf) | (refine lk_F8 ?_; conv => whnf))
      first | refine ⟨rfl, _, rfl, ?_⟩ | refine ⟨_, rfl, ?_⟩
      rfl
    have hil : i < l.length := by simpa using h5
    have hpw : 10 ^ (l.take i).length ≤ 10 ^ 10 := Nat.pow_le_pow_right (by omega) (by rw [List.length_take]; omega)
    have hnl := numV_lt hall
    have hdt := dg_take hil hall
    have hnd := nbB_dig hil
    have hbb := (l.getD i 0).toNat_lt
    have hbt := byteAt_bs l i
    generalize hbd : l.getD i 0 = b at *
    conv => whnf
    repeat (first | (refine go_F8 ?_; conv => whnf) | (refine lk_F8 ?_; conv => whnf))
    try rw [show byteAt (bsOf l) (i : Int).toNat = byteAt (bsOf l) i by rw [Int.toNat_natCast]]
    rw [hbt]
    cases h6 : decide ((b.toNat : Int) < 48)
    case true =>
      rw [bad (hnd (by unfold isDg; rw [show decide (48 ≤ b.toNat) = false by simp at h6 ⊢; omega]; rfl))]
      conv => whnf
      repeat (first | (refine go_F8 ?_; conv => whnf) | (refine lk_F8 ?_; conv => whnf))
      first | refine ⟨rfl, _, rfl, ?_⟩ | refine ⟨_, rfl, ?_⟩
      rfl
    have h6' : 48 ≤ b.toNat := by simp at h6; omega
    conv => whnf
    repeat (first | (refine go_F8 ?_; conv => whnf) | (refine lk_F8 ?_; conv => whnf))
    try rw [show byteAt (bsOf l) (i : Int).toNat = byteAt (bsOf l) i by rw [Int.toNat_natCast]]
    try rw [hbt]
    cases h7 : decide ((b.toNat : Int) > 57)
    case true =>
      rw [bad (hnd (by unfold isDg; rw [show decide (b.toNat ≤ 57) = false by simp at h7 ⊢; omega, Bool.and_false]))]
      conv => whnf
      repeat (first | (refine go_F8 ?_; conv => whnf) | (refine lk_F8 ?_; conv => whnf))
      first | refine ⟨rfl, _, rfl, ?_⟩ | refine ⟨_, rfl, ?_⟩
      rfl
    have h7' : b.toNat ≤ 57 := by simp at h7; omega
    have hdt' := hdt (by unfold isDg; rw [decide_eq_true h6', decide_eq_true h7']; rfl)
    conv => whnf
    repeat (first | (refine go_F8 ?_; conv => whnf) | (refine lk_F8 ?_; conv => whnf))
    try rw [show byteAt (bsOf l) (i : Int).toNat = byteAt (bsOf l) i by rw [Int.toNat_natCast]]
    try rw [hbt]
    have e1 : IntKind.u8.wrap ((b.toNat : Int) - 48) = ((b.toNat - 48 : Nat) : Int) := by rw [wu8 (by omega) (by omega)]; omega
    have e2 : IntKind.i64.wrap (10 * ((numV (l.take i) : Nat) : Int)) = 10 * ((numV (l.take i) : Nat) : Int) := w64 (by omega) (by omega)
    have e3 : IntKind.i64.wrap (10 * ((numV (l.take i) : Nat) : Int) + IntKind.i64.wrap (IntKind.u8.wrap ((b.toNat : Int) - 48))) = ((numV (l.take (i + 1)) : Nat) : Int) := by
      rw [e1, w64 (n := ((b.toNat - 48 : Nat) : Int)) (by omega) (by omega), w64 (by omega) (by omega), hdt'.2]; omega
    refine ⟨i + 1, ?_, ?_, sim_of (rn := []) rfl ?_ ?_⟩
    · (dsimp only; omega)
    · exact ⟨by omega, hdt'.1⟩
    · ((repeat' (first | exact trivial | apply And.intro)) <;> (first | rfl | (exact vintS (by rw [e2, e3])) | exact leaf_F8))
    · ((repeat' (first | exact trivial | apply And.intro)) <;> ((first | refine ⟨_, _, rfl, rfl, ?_⟩ ); rfl))
end Go.Proofs.YtdbhfobnmlogeaaDoor
/- Plain words: lists of things of a fixed number of cells; lists of roofs. -/
set_option linter.unusedVariables false
set_option linter.unusedSimpArgs false
namespace Go.V
section
variable {α : Type} {f : α → List Value} {n : Nat}
theorem fm_len (hf : ∀ x, (f x).length = n) : ∀ l : List α, (l.flatMap f).length = l.length * n
  | [] => by simp
  | x :: l => by rw [List.flatMap_cons, List.length_append, hf, fm_len hf l, List.length_cons, Nat.succ_mul]; omega
end
@[irreducible] def roofsC (rs : List Roof) : List Value := rs.flatMap roofC
theorem roofsC_def (rs : List Roof) : roofsC rs = rs.flatMap roofC := by unfold roofsC; rfl
@[simp] theorem roofsC_len (rs : List Roof) : (roofsC rs).length = rs.length * 67 := by rw [roofsC_def, fm_len roofC_len]
/-- What a pointer into a list of cells leads to, told as cells of its own. -/
theorem Rep.refSub {w : World} {base : Nat} {loc : Loc} {m : Bool} {xs ys : List Value} {off n : Nat} {y : Value} (h : Rep w base loc (.ref m (.v (.agg ⟨xs⟩)) off) y) (hn : (xs.drop off).take n = ys) (hl : ys.length = n) (hpos : 0 < n) :
    Rep w base loc (.ref m (.v (.agg ⟨ys⟩)) 0) y := by
  simp only [Rep] at h ⊢
  obtain ⟨b, o, zs, rfl, hat, hav, hm, hz, hfl⟩ := h
  cases hz
  refine ⟨b, o + off, ys, rfl, ?_, hav, hm, rfl, ?_⟩
  · obtain ⟨k, e, fr, h1, h2, h3⟩ := hat
    have hle : off + n ≤ xs.length := by
      have := congrArg List.length hn
      simp at this
      omega
    refine ⟨k, e, fr, h1, by omega, ?_⟩
    have : ((k.toList.drop o).take xs.length).drop off = xs.drop off := by rw [h3]
    rw [hl, ← hn, ← this, List.drop_take, List.take_take, List.drop_drop, show min n (xs.length - off) = n by omega]
  · simp only [Flat, List.all_eq_true] at hfl ⊢
    intro x hx
    rw [← hn] at hx
    exact hfl x (List.mem_of_mem_drop (List.mem_of_mem_take hx))
theorem Sat.sub {P : Program} {g : FuncId} {m : Bool} {xs ys : List Value} {off n : Nat} {rest : List D} {res : D} (h : Sat P g (.ref m (.v (.agg ⟨ys⟩)) 0 :: rest) res) (hn : (xs.drop off).take n = ys) (hl : ys.length = n) (hpos : 0 < n) :
    Sat P g (.ref m (.v (.agg ⟨xs⟩)) off :: rest) res := by
  refine ⟨h.1, fun w vs hgl hr => h.2 w vs hgl ?_⟩
  simp only [RepL] at hr ⊢
  obtain ⟨y, yss, rfl, h1, h2⟩ := hr
  exact ⟨y, yss, rfl, h1.refSub hn hl hpos, h2⟩
end Go.V
/- Contracts: what the laws do with lists of roofs; roofs that are all as told. -/
set_option linter.unusedVariables false
set_option linter.unusedSimpArgs false
namespace Go.V
def idxX {α : Type} (p : α → Bool) (d : α) (l : List α) : Int := match (List.range l.length).find? (fun i => p (l.getD i d)) with | some i => (i : Int) | none => -1
end Go.V
namespace Go.Proofs.YtdbhfobnmlogeaaDoor
open Go.V
end Go.Proofs.YtdbhfobnmlogeaaDoor
/- Contracts: roofs that are all as told; whether roofs might be. -/
set_option linter.unusedVariables false
set_option linter.unusedSimpArgs false
namespace Go.V
end Go.V
namespace Go.Proofs.YtdbhfobnmlogeaaDoor
open Go.V
end Go.Proofs.YtdbhfobnmlogeaaDoor
/- Contracts: numbers for roofs that drip alike, both sides. -/
set_option linter.unusedVariables false
set_option linter.unusedSimpArgs false
namespace Go.V
/-- Whether two tables are one. -/
def eqD (f g : Nat → Nat → Int) : Bool := (List.range 136).all fun k => f (k / 17) (k % 17) == g (k / 17) (k % 17)
abbrev Tb := Nat → Nat → Int
def zT : Tb := fun _ _ => 0
@[irreducible] def drsC (ds : List Tb) : List Value := ds.flatMap dripC
theorem drsC_def (ds : List Tb) : drsC ds = ds.flatMap dripC := by unfold drsC; rfl
@[simp] theorem drsC_len (ds : List Tb) : (drsC ds).length = ds.length * 136 := by rw [drsC_def, fm_len dripC_len]
/-- Where a table is met first. -/
def gIx (ds : List Tb) (f : Tb) : Int := idxX (eqD f) zT ds
def gNo (ds : List Tb) (f : Tb) : Nat := if gIx ds f < 0 then ds.length else (gIx ds f).toNat
/-- The tables that were met, and the numbers of the first i roofs. -/
def snL (F : Nat → Tb) : Nat → List Tb
  | 0 => []
  | i + 1 => if gIx (snL F i) (F i) < 0 then snL F i ++ [F i] else snL F i
def goL (F : Nat → Tb) (n : Nat) : List Int := qL (fun i => (gNo (snL F i) (F i) : Nat)) n
@[simp] theorem goL_len (F : Nat → Tb) (n : Nat) : (goL F n).length = n := qL_len _ n
theorem nth_part {a x y : D} : ∀ (q : Nat) (c : D), nth [a, x] q = some c → ∃ c0, nth [a, y] q = some c0 ∧ (c0 = c ∨ (c0 = y ∧ c = x))
  | 0, c, h => ⟨a, rfl, .inl (by simpa [nth] using h)⟩
  | 1, c, h => ⟨y, rfl, .inr ⟨rfl, by simpa [nth] using h.symm⟩⟩
  | n + 2, c, h => by simp [nth] at h
theorem cond_part {a x y : D} {c : D} {b : Bool} {q : Nat} (hc : (bif b then nth [a, x] q else none) = some c) : ∃ c0, (bif b then nth [a, y] q else none) = some c0 ∧ (c0 = c ∨ (c0 = y ∧ c = x)) := by
  cases b
  · cases hc
  · exact nth_part q c hc
theorem lentM_part {a x y : D} {id : Id} {c : D} (hc : lentM [a, x] id = some c) : ∃ c0, lentM [a, y] id = some c0 ∧ (c0 = c ∨ (c0 = y ∧ c = x)) := by
  unfold lentM at hc ⊢
  exact cond_part hc
/-- A nil slice in a variable, told as a part. -/
theorem Lent.part {w : World} {l0 : Loc} {a : D} (h : Lent w l0 [a, .v (.agg ⟨[.slice none 0 0]⟩)]) : Lent w l0 [a, .agg [.v (.slice none 0 0)]] := by
  have key : ∀ id c, lentM [a, .agg [.v (.slice none 0 0)]] id = some c → ∃ c0, lentM [a, .v (.agg ⟨[.slice none 0 0]⟩)] id = some c0 ∧ ((c0 = c) ∨ (c0 = .v (.agg ⟨[.slice none 0 0]⟩) ∧ c = .agg [.v (.slice none 0 0)])) :=
    fun id c hc => lentM_part hc
  refine ⟨h.dom, fun id c hc => ?_, h.range, fun id id' c c' b n n' h1 h2 h3 h4 => ?_⟩
  · obtain ⟨c0, g1, g2⟩ := key id c hc
    obtain ⟨l, xs, q1, q2, q3⟩ := h.mem id c0 g1
    rcases g2 with rfl | ⟨rfl, rfl⟩
    · exact ⟨l, xs, q1, q2, q3⟩
    · refine ⟨l, xs, q1, ?_, q3⟩
      simp only [Rep] at q2
      obtain ⟨q2, _⟩ := q2
      simp only [Value.agg.injEq] at q2
      cases q2
      simp only [Rep, RepL]
      exact ⟨_, rfl, ⟨_, _, rfl, ⟨rfl, rfl⟩, rfl⟩, rfl⟩
  · obtain ⟨c0, g1, _⟩ := key id c h1
    obtain ⟨c0', g1', _⟩ := key id' c' h2
    exact h.inj id id' _ _ b n n' g1 g1' h3 h4
theorem SatM.part {P : Program} {g : FuncId} {args : List D} {a res : D} {ms' : List (Option D)} {news : List D} (h : SatM P g args [a, .agg [.v (.slice none 0 0)]] res ms' news) : SatM P g args [a, .v (.agg ⟨[.slice none 0 0]⟩)] res ms' news :=
  ⟨h.1, fun w vs l0 hgl hl hr => h.2 w vs l0 hgl hl.part hr⟩
end Go.V
namespace Go.Proofs.YtdbhfobnmlogeaaDoor
open Go.V
end Go.Proofs.YtdbhfobnmlogeaaDoor
/- The text of drips, both sides, and the law. -/
set_option linter.unusedVariables false
set_option linter.unusedSimpArgs false
namespace Go.V
/- Words for the walks of this text: their default arguments are tried where they are used. -/
theorem go_F3 {P Q : Prop} (k : Q) (h : P := by first | exact strOk (by first | omega | (simp; omega)) | exact Nat.le_of_ble_eq_true rfl | exact rfl | decide | omega | (simp [splice]; done) | (constructor <;> omega) | (simp [splice]; omega)) : P ∧ Q := ⟨h, k⟩
theorem lk_F3 {α : Type} {o : Option α} {K : α → Prop} {x : α} (k : K x) (h : o = some x := by first | exact raiA (by omega) | exact raiA' (by omega) | exact watA (by omega) | exact watA' (by omega) | exact dripA (by omega) (by omega) | exact roofN (by omega) (by omega) | exact gridN (by omega) (by omega) | exact intA (by omega) | exact intA' (by omega)) : optK o K := optK_of h k
theorem sc_F3 {P : Program} {g : FuncId} {args args' : List D} {res : D} (h : Sat P g args res) (e : args' = args := by repeat (first | rfl | exact vfull (by first | (simp [splice]; done) | (simp [splice]; omega)) | exact rfull (by first | (simp [splice]; done) | (simp [splice]; omega)) | exact vdrow8 (by simp; done) (by omega) | exact vrow (by simp; done) (by omega) | exact vtiles (by simp) | exact vsplice (by simp) (by simp) | refine ceq ?_ ?_ | refine Eq.trans (vsplice (by first | (simp; done) | (simp; omega)) (by first | (simp; done) | (simp; omega))) ?_)) : Sat P g args' res := Sat.of_eq h e
theorem leaf_F3 {P : Prop} (h : P := by first | rfl | exact succ8 (by omega) | exact succ64 (by omega) | exact CapOk.fn (by assumption) _ _ | exact vintS (by omega) | exact vintS (by rw [w64 (by omega) (by omega)]; omega) | exact vintS (by rw [w8 (by omega) (by omega)]; omega) | exact vslcS (by omega) | exact vslcS (by simp)) : P := h
theorem hold_F3 {P : Prop} (h : P := by (repeat' (first | exact trivial | apply And.intro)) <;> (first | rfl | exact succ8 (by omega) | exact succ64 (by omega) | exact CapOk.fn (by assumption) _ _ | exact vintS (by omega) | exact vintS (by rw [w64 (by omega) (by omega)]; omega) | exact vintS (by rw [w8 (by omega) (by omega)]; omega) | exact vslcS (by omega) | exact vslcS (by simp))) : P := h
theorem okt_F3 {P : Prop} (h : P := by first | omega | (dsimp only; omega) | ((repeat' apply And.intro) <;> omega) | (dsimp only; (repeat' apply And.intro) <;> omega) | trivial) : P := h
end Go.V
namespace Go.V
/-- Drips of whatever size. -/
structure DrpIn (f : Tb) : Prop where
  t : ∀ i c, -2147483648 ≤ f i c ∧ f i c ≤ 2147483647
theorem vdrow8 {f : Tb} {o i : Nat} (ho : o = i * 17) (hi : i < 8) : D.v (.agg ⟨((dripC f).drop o).take 17⟩) = watD (f i) := by rw [drip_row ho hi]; rfl
def insB (r : Roof) (i c : Nat) : Bool := decide ((i : Int) < r.h) && decide ((c : Int) < 2 * r.w + 1)
/-- One number of drips that have a text. -/
def okFc (r : Roof) (f : Tb) (k : Nat) : Bool := deepB (f (k / 17) (k % 17)) && (insB r (k / 17) (k % 17) || decide (f (k / 17) (k % 17) = 0))
def okF (r : Roof) (f : Tb) : Bool := (List.range 136).all (okFc r f)
theorem okF_yes {r : Roof} {f : Tb} (h : ∀ k, k < 136 → okFc r f k = true) : okF r f = true := by
  unfold okF; rw [List.all_eq_true]; intro k hk; exact h k (by simpa using hk)
theorem okF_no {r : Roof} {f : Tb} {k : Nat} (hk : k < 136) (h : okFc r f k = false) : okF r f = false := by
  unfold okF; rw [List.all_eq_false]; exact ⟨k, by simpa using hk, by simp [h]⟩
theorem okF_at {r : Roof} {f : Tb} (h : okF r f = true) {k : Nat} (hk : k < 136) : okFc r f k = true := by
  unfold okF at h; rw [List.all_eq_true] at h; exact h k (by simpa using hk)
theorem okF_in {r : Roof} {f : Tb} (h : okF r f = true) : ∀ k, k < 136 → 0 ≤ f (k / 17) (k % 17) ∧ f (k / 17) (k % 17) ≤ 1000 := fun k hk => by
  have := okF_at h hk
  unfold okFc deepB at this
  simp at this
  omega
/-- The word of one drip. -/
def dWd (f : Tb) (k : Nat) : List UInt8 := Lib.itoa ((k / 17 : Nat) : Int) ++ [58] ++ Lib.itoa ((k % 17 : Nat) : Int) ++ [61] ++ Lib.itoa (f (k / 17) (k % 17))
theorem dWd_bs {f : Tb} {k i c : Nat} (h1 : k / 17 = i) (h2 : k % 17 = c) : decB i ++ ⟨#[58]⟩ ++ decB c ++ ⟨#[61]⟩ ++ decB (f i c) = bsOf (dWd f k) := by
  subst h1 h2
  unfold dWd decB
  show bsOf _ ++ bsOf [58] ++ bsOf _ ++ bsOf [61] ++ bsOf _ = _
  rw [bs_append, bs_append, bs_append, bs_append]
/-- The words of the drips as far as some cell. -/
def dWs (f : Tb) : Nat → List (List UInt8)
  | 0 => []
  | k + 1 => if f (k / 17) (k % 17) = 0 then dWs f k else dWs f k ++ [dWd f k]
/-- The text of the drips as far as some cell. -/
def dtT (f : Tb) (k : Nat) : List UInt8 := Lib.join (dWs f k) [32]
theorem itoa_len {n : Int} (h : 0 ≤ n ∧ n ≤ 1000) : 1 ≤ (Lib.itoa n).length ∧ (Lib.itoa n).length ≤ 4 := decB_size h
theorem dWd_len {f : Tb} {k : Nat} (hk : k < 136) (h : 0 ≤ f (k / 17) (k % 17) ∧ f (k / 17) (k % 17) ≤ 1000) : 1 ≤ (dWd f k).length ∧ (dWd f k).length ≤ 14 := by
  have h1 := itoa_len (n := ((k / 17 : Nat) : Int)) (by omega)
  have h2 := itoa_len (n := ((k % 17 : Nat) : Int)) (by omega)
  have h3 := itoa_len h
  unfold dWd
  simp only [List.length_append, List.length_cons, List.length_nil]
  omega
theorem dWs_no {f : Tb} {k : Nat} (h : f (k / 17) (k % 17) = 0) : dWs f (k + 1) = dWs f k := by rw [dWs, if_pos h]
theorem dWs_yes {f : Tb} {k : Nat} (h : ¬ f (k / 17) (k % 17) = 0) : dWs f (k + 1) = dWs f k ++ [dWd f k] := by rw [dWs, if_neg h]
theorem dWs_len (f : Tb) : ∀ k, (dWs f k).length ≤ k
  | 0 => by simp [dWs]
  | k + 1 => by
    have := dWs_len f k
    rw [dWs]; split
    · omega
    · simp; omega
theorem dtT_len {f : Tb} (h : ∀ k, k < 136 → 0 ≤ f (k / 17) (k % 17) ∧ f (k / 17) (k % 17) ≤ 1000) : ∀ k, k ≤ 136 → (dtT f k).length ≤ k * 15 ∧ (dtT f k = [] ↔ dWs f k = [])
  | 0, _ => by simp [dtT, dWs, Lib.join_nil]
  | k + 1, hk => by
    obtain ⟨h1, h2⟩ := dtT_len h k (by omega)
    have h3 := dWd_len (by omega) (h k (by omega))
    by_cases h0 : f (k / 17) (k % 17) = 0
    · unfold dtT at *; rw [dWs_no h0]; exact ⟨by omega, h2⟩
    · unfold dtT at *
      rw [dWs_yes h0]
      by_cases hn : dWs f k = []
      · rw [hn]
        simp only [List.nil_append, Lib.join_one]
        refine ⟨by omega, by simp; intro e; rw [e] at h3; simp at h3⟩
      · rw [join_snoc hn]
        refine ⟨by simp; omega, by simp⟩
theorem strsB_append (xs : List (List UInt8)) (x : List UInt8) : strsC (xs.map bsOf) ++ [.string (bsOf x)] = strsC ((xs ++ [x]).map bsOf) := by rw [List.map_append, strsC_append, List.map_singleton, strsC_one]
theorem join_bs (xs : List (List UInt8)) (sep : List UInt8) : Lib.join ((xs.map bsOf).map (·.data.toList)) sep = Lib.join xs sep := by
  rw [List.map_map]
  have : ((fun x : ByteArray => x.data.toList) ∘ bsOf) = id := by funext l; simp
  rw [this, List.map_id]
theorem rowcopy {f : Tb} {o i : Nat} {zs : List Value} (ho : o = i * 17) (hi : i < 8) (hz : zs.length = 17) : some (D.v (.agg ⟨((splice zs 0 (((dripC f).drop o).take 17)).drop 0).take 17⟩)) = some (watD (f i)) := by
  rw [drip_row ho hi, splice_all (by simpa using hz), take_drop0 (by simp)]; rfl
end Go.V
namespace Go.Proofs.YtdbhfobnmlogeaaDoor
open Go.V
theorem inside_sat (r : Roof) (hr : r.In) (hb : Rb r) (i c : Nat) (hi : i < 8) (hc : c < 17) : Sat Tryd.prog 132 [.ref false (roofD r) 0, .v (.int .i64 i), .v (.int .i64 c)] (.v (.bool (insB r i c))) := by
  have e3 : IntKind.i64.wrap r.h = r.h := w64 (by omega) (by omega)
  have e4 : IntKind.i64.wrap (c : Int) = c := w64 (by omega) (by omega)
  refine sat_of_wp hMix tOk Tryd.func132 rfl rfl Tryd.ntmps132 rfl rfl Tryd.results132 (by kernel_rfl) ?_
  conv => whnf
  repeat (first | (refine go_F3 ?_; conv => whnf) | (refine lk_F3 ?_; conv => whnf))
  rw [e3]
  cases h : decide ((i : Int) < r.h)
  · conv => whnf
    repeat (first | (refine go_F3 ?_; conv => whnf) | (refine lk_F3 ?_; conv => whnf))
    first | refine ⟨rfl, _, rfl, ?_⟩ | refine ⟨_, rfl, ?_⟩
    skip
    unfold insB; rw [h]; rfl
  conv => whnf
  repeat (first | (refine go_F3 ?_; conv => whnf) | (refine lk_F3 ?_; conv => whnf))
  first | refine ⟨_, _, rfl, sc_F3 (l01Cells_sat r hr hb), ?_⟩ | refine .inl ⟨_, _, rfl, sc_F3 (l01Cells_sat r hr hb), ?_⟩
  conv => whnf
  repeat (first | (refine go_F3 ?_; conv => whnf) | (refine lk_F3 ?_; conv => whnf))
  try rw [e4]
  conv => whnf
  repeat (first | (refine go_F3 ?_; conv => whnf) | (refine lk_F3 ?_; conv => whnf))
  first | refine ⟨rfl, _, rfl, ?_⟩ | refine ⟨_, rfl, ?_⟩
  skip
  unfold insB; rw [h]; rfl
theorem isCell_sat (r : Roof) (hr : r.In) (hb : Rb r) (i c : Nat) (hi : i < 8) (hc : c < 17) : Sat Tryd.prog 133 [roofD r, .v (.int .i64 i), .v (.int .i64 c)] (.v (.bool (insB r i c))) := by
  have e3 : IntKind.i64.wrap r.h = r.h := w64 (by omega) (by omega)
  refine sat_of_wp hMix tOk Tryd.func133 rfl rfl Tryd.ntmps133 rfl rfl Tryd.results133 (by kernel_rfl) ?_
  conv => whnf
  repeat (first | (refine go_F3 ?_; conv => whnf) | (refine lk_F3 ?_; conv => whnf))
  rw [e3]
  cases h : decide ((i : Int) < r.h)
  · conv => whnf
    repeat (first | (refine go_F3 ?_; conv => whnf) | (refine lk_F3 ?_; conv => whnf))
    first | refine ⟨rfl, _, rfl, ?_⟩ | refine ⟨_, rfl, ?_⟩
    skip
    unfold insB; rw [h]; rfl
  conv => whnf
  repeat (first | (refine go_F3 ?_; conv => whnf) | (refine lk_F3 ?_; conv => whnf))
  first | refine ⟨_, _, rfl, sc_F3 (cells_sat r hr hb), ?_⟩ | refine .inl ⟨_, _, rfl, sc_F3 (cells_sat r hr hb), ?_⟩
  conv => whnf
  repeat (first | (refine go_F3 ?_; conv => whnf) | (refine lk_F3 ?_; conv => whnf))
  first | refine ⟨rfl, _, rfl, ?_⟩ | refine ⟨_, rfl, ?_⟩
  skip
  unfold insB; rw [h]; rfl
theorem isAmount32_sat (n : Int) (hn : -2147483648 ≤ n ∧ n ≤ 2147483647) : Sat Tryd.prog 79 [.v (.int .i32 n)] (.v (.bool (deepB n))) := by
  refine sat_of_wp hMix tOk Tryd.func79 rfl rfl Tryd.ntmps79 rfl rfl Tryd.results79 (by kernel_rfl) ?_
  conv => whnf
  repeat (first | (refine go_F3 ?_; conv => whnf) | (refine lk_F3 ?_; conv => whnf))
  rw [show IntKind.i64.wrap n = n from w64 (by omega) (by omega)]
  first | refine ⟨_, _, rfl, sc_F3 (within64_sat n 0 1000), ?_⟩ | refine .inl ⟨_, _, rfl, sc_F3 (within64_sat n 0 1000), ?_⟩
  conv => whnf
  repeat (first | (refine go_F3 ?_; conv => whnf) | (refine lk_F3 ?_; conv => whnf))
  first | refine ⟨rfl, _, rfl, ?_⟩ | refine ⟨_, rfl, ?_⟩
  rfl
theorem dec32_sat (n : Int) (hn : -2147483648 ≤ n ∧ n ≤ 2147483647) : Sat Tryd.prog 135 [.v (.int .i32 n)] (.v (.string (decB n))) := by
  refine sat_of_wp hMix tOk Tryd.func135 rfl rfl Tryd.ntmps135 rfl rfl Tryd.results135 (by kernel_rfl) ?_
  conv => whnf
  repeat (first | (refine go_F3 ?_; conv => whnf) | (refine lk_F3 ?_; conv => whnf))
  rw [show IntKind.i64.wrap n = n from w64 (by omega) (by omega)]
  first | refine ⟨_, _, rfl, sc_F3 (formatInt_sat n (by omega) (by omega)), ?_⟩ | refine .inl ⟨_, _, rfl, sc_F3 (formatInt_sat n (by omega) (by omega)), ?_⟩
  conv => whnf
  repeat (first | (refine go_F3 ?_; conv => whnf) | (refine lk_F3 ?_; conv => whnf))
  first | refine ⟨rfl, _, rfl, ?_⟩ | refine ⟨_, rfl, ?_⟩
  rfl
theorem decI_sat (n : Int) (hn : -2147483648 ≤ n ∧ n ≤ 2147483647) : Sat Tryd.prog 134 [.v (.int .i64 n)] (.v (.string (decB n))) := by
  refine sat_of_wp hMix tOk Tryd.func134 rfl rfl Tryd.ntmps134 rfl rfl Tryd.results134 (by kernel_rfl) ?_
  conv => whnf
  repeat (first | (refine go_F3 ?_; conv => whnf) | (refine lk_F3 ?_; conv => whnf))
  try rw [show IntKind.i64.wrap n = n from w64 (by omega) (by omega)]
  first | refine ⟨_, _, rfl, sc_F3 (formatInt_sat n (by omega) (by omega)), ?_⟩ | refine .inl ⟨_, _, rfl, sc_F3 (formatInt_sat n (by omega) (by omega)), ?_⟩
  conv => whnf
  repeat (first | (refine go_F3 ?_; conv => whnf) | (refine lk_F3 ?_; conv => whnf))
  first | refine ⟨rfl, _, rfl, ?_⟩ | refine ⟨_, rfl, ?_⟩
  rfl
theorem l03Plain_sat (r : Roof) (hr : r.In) (hb : Rb r) (f : Tb) (hf : DrpIn f) : Sat Tryd.prog 75 [.ref false (roofD r) 0, .ref false (dripD f) 0] (.v (.bool (okF r f))) := by
  refine sat_of_wp hMix tOk Tryd.func75 rfl rfl Tryd.ntmps75 rfl rfl Tryd.results75 (by kernel_rfl) ?_
  conv => whnf
  repeat (first | (refine go_F3 ?_; conv => whnf) | (refine lk_F3 ?_; conv => whnf))
  refine loop_rule (α := Nat) (fun i => [(0, .ref false (roofD r) 0), (1, .ref false (dripD f) 0), (5, .v (.int .i64 i))]) (fun i => []) (fun i => i ≤ 8 ∧ ∀ k, k < i * 17 → okFc r f k = true) (fun i => 8 - i) (0) ?_ (sim_of (rn := []) rfl ?_ ?_) ?_
  · exact ⟨by omega, fun k hk => by omega⟩
  · exact hold_F3
  · ((repeat' (first | exact trivial | apply And.intro)) <;> ((first | refine ⟨_, _, rfl, rfl, ?_⟩ ); rfl))
  rintro i ⟨hi, hall⟩
  conv => whnf
  repeat (first | (refine go_F3 ?_; conv => whnf) | (refine lk_F3 ?_; conv => whnf))
  cases h1 : decide ((i : Int) < 8)
  · have h8 : i = 8 := by simp at h1; omega
    subst h8
    rw [okF_yes hall]
    conv => whnf
    repeat (first | (refine go_F3 ?_; conv => whnf) | (refine lk_F3 ?_; conv => whnf))
    first | refine ⟨rfl, _, rfl, ?_⟩ | refine ⟨_, rfl, ?_⟩
    rfl
  have h8 : i < 8 := by simp at h1; omega
  conv => whnf
  repeat (first | (refine go_F3 ?_; conv => whnf) | (refine lk_F3 ?_; conv => whnf))
  refine loop_rule (α := Nat) (fun c => [(0, .ref false (roofD r) 0), (1, .ref false (dripD f) 0), (5, .v (.int .i64 i)), (6, .v (.int .i64 c))]) (fun c => []) (fun c => c ≤ 17 ∧ ∀ k, k < i * 17 + c → okFc r f k = true) (fun c => 17 - c) (0) ?_ (sim_of (rn := []) rfl ?_ ?_) ?_
  · exact ⟨by omega, fun k hk => hall k (by omega)⟩
  · exact hold_F3
  · ((repeat' (first | exact trivial | apply And.intro)) <;> ((first | refine ⟨_, _, rfl, rfl, ?_⟩ ); rfl))
  rintro c ⟨hc, hall2⟩
  conv => whnf
  repeat (first | (refine go_F3 ?_; conv => whnf) | (refine lk_F3 ?_; conv => whnf))
  cases h2 : decide ((c : Int) < 17)
  · have h17 : c = 17 := by simp at h2; omega
    subst h17
    conv => whnf
    repeat (first | (refine go_F3 ?_; conv => whnf) | (refine lk_F3 ?_; conv => whnf))
    refine ⟨i + 1, ?_, ?_, sim_of (rn := []) rfl ?_ ?_⟩
    · (dsimp only; omega)
    · exact ⟨by omega, fun k hk => hall2 k (by omega)⟩
    · exact hold_F3
    · ((repeat' (first | exact trivial | apply And.intro)) <;> ((first | refine ⟨_, _, rfl, rfl, ?_⟩ ); rfl))
  have h17 : c < 17 := by simp at h2; omega
  have hfc := hf.t i c
  have hsp : okFc r f (i * 17 + c) = (deepB (f i c) && (insB r i c || decide (f i c = 0))) := by unfold okFc; rw [show (i * 17 + c) / 17 = i by omega, show (i * 17 + c) % 17 = c by omega]
  have nxt : okFc r f (i * 17 + c) = true → c + 1 ≤ 17 ∧ ∀ k, k < i * 17 + (c + 1) → okFc r f k = true := fun h => ⟨by omega, fun k hk => by
    by_cases e : k = i * 17 + c
    · rw [e]; exact h
    · exact hall2 k (by omega)⟩
  conv => whnf
  repeat (first | (refine go_F3 ?_; conv => whnf) | (refine lk_F3 ?_; conv => whnf))
  rw [show IntKind.i64.wrap (f i c) = f i c from w64 (by omega) (by omega)]
  first | refine ⟨_, _, rfl, sc_F3 (l00In_sat (f i c) 0 1000), ?_⟩ | refine .inl ⟨_, _, rfl, sc_F3 (l00In_sat (f i c) 0 1000), ?_⟩
  conv => whnf
  repeat (first | (refine go_F3 ?_; conv => whnf) | (refine lk_F3 ?_; conv => whnf))
  rw [show (decide (f i c ≥ 0) && decide (f i c ≤ 1000)) = deepB (f i c) from rfl]
  cases h3 : deepB (f i c)
  · rw [okF_no (k := i * 17 + c) (by omega) (by rw [hsp, h3]; rfl)]
    conv => whnf
    repeat (first | (refine go_F3 ?_; conv => whnf) | (refine lk_F3 ?_; conv => whnf))
    first | refine ⟨rfl, _, rfl, ?_⟩ | refine ⟨_, rfl, ?_⟩
    rfl
  conv => whnf
  repeat (first | (refine go_F3 ?_; conv => whnf) | (refine lk_F3 ?_; conv => whnf))
  have hd : 0 ≤ f i c := by unfold deepB at h3; simp at h3; omega
  cases h4 : decide (f i c > 0)
  · have h0 : f i c = 0 := by simp at h4; omega
    conv => whnf
    repeat (first | (refine go_F3 ?_; conv => whnf) | (refine lk_F3 ?_; conv => whnf))
    refine ⟨c + 1, ?_, ?_, sim_of (rn := []) rfl ?_ ?_⟩
    · (dsimp only; omega)
    · exact nxt (by rw [hsp, h3, h0]; simp)
    · exact hold_F3
    · ((repeat' (first | exact trivial | apply And.intro)) <;> ((first | refine ⟨_, _, rfl, rfl, ?_⟩ ); rfl))
  have h0 : ¬ f i c = 0 := by simp at h4; omega
  conv => whnf
  repeat (first | (refine go_F3 ?_; conv => whnf) | (refine lk_F3 ?_; conv => whnf))
  first | refine ⟨_, _, rfl, sc_F3 (inside_sat r hr hb i c h8 h17), ?_⟩ | refine .inl ⟨_, _, rfl, sc_F3 (inside_sat r hr hb i c h8 h17), ?_⟩
  conv => whnf
  repeat (first | (refine go_F3 ?_; conv => whnf) | (refine lk_F3 ?_; conv => whnf))
  cases h5 : insB r i c
  · rw [okF_no (k := i * 17 + c) (by omega) (by rw [hsp, h3, h5]; simp [h0])]
    conv => whnf
    repeat (first | (refine go_F3 ?_; conv => whnf) | (refine lk_F3 ?_; conv => whnf))
    first | refine ⟨rfl, _, rfl, ?_⟩ | refine ⟨_, rfl, ?_⟩
    rfl
  · conv => whnf
    repeat (first | (refine go_F3 ?_; conv => whnf) | (refine lk_F3 ?_; conv => whnf))
    refine ⟨c + 1, ?_, ?_, sim_of (rn := []) rfl ?_ ?_⟩
    · (dsimp only; omega)
    · exact nxt (by rw [hsp, h3, h5]; rfl)
    · exact hold_F3
    · ((repeat' (first | exact trivial | apply And.intro)) <;> ((first | refine ⟨_, _, rfl, rfl, ?_⟩ ); rfl))
theorem areDrips_sat (r : Roof) (hr : r.In) (hb : Rb r) (f : Tb) (hf : DrpIn f) : Sat Tryd.prog 78 [roofD r, dripD f, .fn (.func 79) [] []] (.v (.bool (okF r f))) := by
  refine sat_of_wp hMix tOk Tryd.func78 rfl rfl Tryd.ntmps78 rfl rfl Tryd.results78 (by kernel_rfl) ?_
  conv => whnf
  repeat (first | (refine go_F3 ?_; conv => whnf) | (refine lk_F3 ?_; conv => whnf))
  refine loop_rule (α := Nat) (fun i => [(2, .fn (.func 79) [] []), (3, .ptr (3, 0, 0) 0), (11, dripD f), (12, .v (.int .i64 i))]) (fun i => [((3, 0, 0), roofD r)]) (fun i => i ≤ 8 ∧ ∀ k, k < i * 17 → okFc r f k = true) (fun i => 8 - i) (0) ?_ (sim_of (rn := [((3, 0, 0), (3, 0, 0))]) rfl ?_ ?_) ?_
  · exact ⟨by omega, fun k hk => by omega⟩
  · ((repeat' (first | exact trivial | apply And.intro)) <;> (first | rfl | (first | exact cset (take_drop0 (by simp)).symm | exact cset (take_drop0 (by simp))) | exact leaf_F3))
  · ((repeat' (first | exact trivial | apply And.intro)) <;> ((first | refine ⟨_, _, rfl, rfl, ?_⟩ ); rfl))
  rintro i ⟨hi, hall⟩
  conv => whnf
  repeat (first | (refine go_F3 ?_; conv => whnf) | (refine lk_F3 ?_; conv => whnf))
  cases h1 : decide ((i : Int) < 8)
  · have h8 : i = 8 := by simp at h1; omega
    subst h8
    rw [okF_yes hall]
    conv => whnf
    repeat (first | (refine go_F3 ?_; conv => whnf) | (refine lk_F3 ?_; conv => whnf))
    first | refine ⟨rfl, _, rfl, ?_⟩ | refine ⟨_, rfl, ?_⟩
    rfl
  have h8 : i < 8 := by simp at h1; omega
  conv => whnf
  repeat (first | (refine go_F3 ?_; conv => whnf) | (refine lk_F3 ?_; conv => whnf))
  refine loop_rule (α := Nat) (fun c => [(2, .fn (.func 79) [] []), (3, .ptr (3, 0, 0) 0), (7, .v (.int .i64 i)), (11, dripD f), (12, .v (.int .i64 i)), (16, watD (f i)), (17, .v (.int .i64 c))]) (fun c => [((3, 0, 0), roofD r)]) (fun c => c ≤ 17 ∧ ∀ k, k < i * 17 + c → okFc r f k = true) (fun c => 17 - c) (0) ?_ (sim_of (rn := [((3, 0, 0), (3, 0, 0))]) rfl ?_ ?_) ?_
  · exact ⟨by omega, fun k hk => hall k (by omega)⟩
  · ((repeat' (first | exact trivial | apply And.intro)) <;> (first | rfl | (exact (rowcopy (by show (i : Int).toNat * 17 = i * 17; simp) h8 (List.length_replicate ..)).symm) | exact leaf_F3))
  · ((repeat' (first | exact trivial | apply And.intro)) <;> ((first | refine ⟨_, _, rfl, rfl, ?_⟩ ); rfl))
  rintro c ⟨hc, hall2⟩
  conv => whnf
  repeat (first | (refine go_F3 ?_; conv => whnf) | (refine lk_F3 ?_; conv => whnf))
  cases h2 : decide ((c : Int) < 17)
  · have h17 : c = 17 := by simp at h2; omega
    subst h17
    conv => whnf
    repeat (first | (refine go_F3 ?_; conv => whnf) | (refine lk_F3 ?_; conv => whnf))
    refine ⟨i + 1, ?_, ?_, sim_of (rn := [((3, 0, 0), (3, 0, 0))]) rfl ?_ ?_⟩
    · (dsimp only; omega)
    · exact ⟨by omega, fun k hk => hall2 k (by omega)⟩
    · exact hold_F3
    · ((repeat' (first | exact trivial | apply And.intro)) <;> ((first | refine ⟨_, _, rfl, rfl, ?_⟩ ); rfl))
  have h17 : c < 17 := by simp at h2; omega
  have hfc := hf.t i c
  have hsp : okFc r f (i * 17 + c) = (deepB (f i c) && (insB r i c || decide (f i c = 0))) := by unfold okFc; rw [show (i * 17 + c) / 17 = i by omega, show (i * 17 + c) % 17 = c by omega]
  have nxt : okFc r f (i * 17 + c) = true → c + 1 ≤ 17 ∧ ∀ k, k < i * 17 + (c + 1) → okFc r f k = true := fun h => ⟨by omega, fun k hk => by
    by_cases e : k = i * 17 + c
    · rw [e]; exact h
    · exact hall2 k (by omega)⟩
  conv => whnf
  repeat (first | (refine go_F3 ?_; conv => whnf) | (refine lk_F3 ?_; conv => whnf))
  first | refine ⟨_, _, rfl, sc_F3 (isCell_sat r hr hb i c h8 h17), ?_⟩ | refine .inl ⟨_, _, rfl, sc_F3 (isCell_sat r hr hb i c h8 h17), ?_⟩
  conv => whnf
  repeat (first | (refine go_F3 ?_; conv => whnf) | (refine lk_F3 ?_; conv => whnf))
  cases h5 : insB r i c
  · conv => whnf
    repeat (first | (refine go_F3 ?_; conv => whnf) | (refine lk_F3 ?_; conv => whnf))
    cases h4 : (f i c != 0)
    · have h0 : f i c = 0 := by simpa using h4
      conv => whnf
      repeat (first | (refine go_F3 ?_; conv => whnf) | (refine lk_F3 ?_; conv => whnf))
      first | refine ⟨_, _, rfl, sc_F3 (isAmount32_sat (f i c) hfc), ?_⟩ | refine .inl ⟨_, _, rfl, sc_F3 (isAmount32_sat (f i c) hfc), ?_⟩
      conv => whnf
      repeat (first | (refine go_F3 ?_; conv => whnf) | (refine lk_F3 ?_; conv => whnf))
      cases h3 : deepB (f i c)
      · rw [okF_no (k := i * 17 + c) (by omega) (by rw [hsp, h3]; rfl)]
        conv => whnf
        repeat (first | (refine go_F3 ?_; conv => whnf) | (refine lk_F3 ?_; conv => whnf))
        first | refine ⟨rfl, _, rfl, ?_⟩ | refine ⟨_, rfl, ?_⟩
        rfl
      · conv => whnf
        repeat (first | (refine go_F3 ?_; conv => whnf) | (refine lk_F3 ?_; conv => whnf))
        refine ⟨c + 1, ?_, ?_, sim_of (rn := [((3, 0, 0), (3, 0, 0))]) rfl ?_ ?_⟩
        · (dsimp only; omega)
        · exact nxt (by rw [hsp, h3, h0]; simp)
        · exact hold_F3
        · ((repeat' (first | exact trivial | apply And.intro)) <;> ((first | refine ⟨_, _, rfl, rfl, ?_⟩ ); rfl))
    · have h0 : ¬ f i c = 0 := by simpa using h4
      rw [okF_no (k := i * 17 + c) (by omega) (by rw [hsp, h5]; simp [h0])]
      conv => whnf
      repeat (first | (refine go_F3 ?_; conv => whnf) | (refine lk_F3 ?_; conv => whnf))
      first | refine ⟨rfl, _, rfl, ?_⟩ | refine ⟨_, rfl, ?_⟩
      rfl
  · conv => whnf
    repeat (first | (refine go_F3 ?_; conv => whnf) | (refine lk_F3 ?_; conv => whnf))
    first | refine ⟨_, _, rfl, sc_F3 (isAmount32_sat (f i c) hfc), ?_⟩ | refine .inl ⟨_, _, rfl, sc_F3 (isAmount32_sat (f i c) hfc), ?_⟩
    conv => whnf
    repeat (first | (refine go_F3 ?_; conv => whnf) | (refine lk_F3 ?_; conv => whnf))
    cases h3 : deepB (f i c)
    · rw [okF_no (k := i * 17 + c) (by omega) (by rw [hsp, h3]; rfl)]
      conv => whnf
      repeat (first | (refine go_F3 ?_; conv => whnf) | (refine lk_F3 ?_; conv => whnf))
      first | refine ⟨rfl, _, rfl, ?_⟩ | refine ⟨_, rfl, ?_⟩
      rfl
    · conv => whnf
      repeat (first | (refine go_F3 ?_; conv => whnf) | (refine lk_F3 ?_; conv => whnf))
      refine ⟨c + 1, ?_, ?_, sim_of (rn := [((3, 0, 0), (3, 0, 0))]) rfl ?_ ?_⟩
      · (dsimp only; omega)
      · exact nxt (by rw [hsp, h3, h5]; rfl)
      · exact hold_F3
      · ((repeat' (first | exact trivial | apply And.intro)) <;> ((first | refine ⟨_, _, rfl, rfl, ?_⟩ ); rfl))
theorem dripsText_sat (r : Roof) (f : Tb) (hf : okF r f = true) : Sat Tryd.prog 80 [dripD f] (.v (.string (bsOf (dtT f 136)))) := by
  refine sat_of_wp hMix tOk Tryd.func80 rfl rfl Tryd.ntmps80 rfl rfl Tryd.results80 (by kernel_rfl) ?_
  conv => whnf
  repeat (first | (refine go_F3 ?_; conv => whnf) | (refine lk_F3 ?_; conv => whnf))
  refine loop_rule (α := Nat) (fun i => [(1, .ptr (1, 0, 0) 0), (3, .slc true 1 (32, 0, 0) 0 ((dWs f (i * 17)).map bsOf).length), (8, dripD f), (9, .v (.int .i64 i))]) (fun i => [((1, 0, 0), dripD f), ((32, 0, 0), .v (.agg ⟨strsC ((dWs f (i * 17)).map bsOf)⟩))]) (fun i => i ≤ 8) (fun i => 8 - i) (0) ?_ (sim_of (rn := [((1, 0, 0), (1, 0, 0)), ((32, 0, 0), nilId)]) rfl ?_ ?_) ?_
  · exact okt_F3
  · ((repeat' (first | exact trivial | apply And.intro)) <;> (first | rfl | (first | exact cset (take_drop0 (by simp)).symm | exact cset (take_drop0 (by simp))) | exact leaf_F3))
  · ((repeat' (first | exact trivial | apply And.intro)) <;> ((first | refine ⟨_, _, rfl, rfl, ?_⟩ ); first | rfl | (exact cset (show [] = strsC [] from strsC_nil.symm))))
  intro i hi
  conv => whnf
  repeat (first | (refine go_F3 ?_; conv => whnf) | (refine lk_F3 ?_; conv => whnf))
  cases h1 : decide ((i : Int) < 8)
  · have h8 : i = 8 := by simp at h1; omega
    subst h8
    have hl := dWs_len f (8 * 17)
    obtain ⟨hlT, _⟩ := dtT_len (okF_in hf) (8 * 17) (by omega)
    have hj := join_bs (dWs f (8 * 17)) [32]
    conv => whnf
    repeat (first | (refine go_F3 ?_; conv => whnf) | (refine lk_F3 ?_; conv => whnf))
    first | refine ⟨_, _, rfl, sc_F3 (join_sat (List.map bsOf (dWs f (8 * 17))) ⟨#[32]⟩ false (by rw [List.length_map]; omega) (by show (Lib.join _ [32]).length ≤ _; rw [hj]; show (dtT f (8 * 17)).length ≤ _; omega)), ?_⟩ | refine .inl ⟨_, _, rfl, sc_F3 (join_sat (List.map bsOf (dWs f (8 * 17))) ⟨#[32]⟩ false (by rw [List.length_map]; omega) (by show (Lib.join _ [32]).length ≤ _; rw [hj]; show (dtT f (8 * 17)).length ≤ _; omega)), ?_⟩
    conv => whnf
    repeat (first | (refine go_F3 ?_; conv => whnf) | (refine lk_F3 ?_; conv => whnf))
    first | refine ⟨rfl, _, rfl, ?_⟩ | refine ⟨_, rfl, ?_⟩
    skip
    show D.v (.string (bsOf (dtT f 136))) = D.v (.string (bsOf (Lib.join _ [32])))
    rw [hj]; rfl
  have h8 : i < 8 := by simp at h1; omega
  conv => whnf
  repeat (first | (refine go_F3 ?_; conv => whnf) | (refine lk_F3 ?_; conv => whnf))
  refine loop_rule (α := Nat) (fun c => [(1, .ptr (1, 0, 0) 0), (3, .slc true 1 (32, 0, 0) 0 ((dWs f (i * 17 + c)).map bsOf).length), (4, .v (.int .i64 i)), (8, dripD f), (9, .v (.int .i64 i)), (13, watD (f i)), (14, .v (.int .i64 c))]) (fun c => [((1, 0, 0), dripD f), ((32, 0, 0), .v (.agg ⟨strsC ((dWs f (i * 17 + c)).map bsOf)⟩))]) (fun c => c ≤ 17) (fun c => 17 - c) (0) ?_ (sim_of (rn := [((1, 0, 0), (1, 0, 0)), ((32, 0, 0), (32, 0, 0))]) rfl ?_ ?_) ?_
  · exact okt_F3
  · ((repeat' (first | exact trivial | apply And.intro)) <;> (first | rfl | (exact (rowcopy (by show (i : Int).toNat * 17 = i * 17; simp) h8 (List.length_replicate ..)).symm) | exact leaf_F3))
  · ((repeat' (first | exact trivial | apply And.intro)) <;> ((first | refine ⟨_, _, rfl, rfl, ?_⟩ ); rfl))
  intro c hc
  conv => whnf
  repeat (first | (refine go_F3 ?_; conv => whnf) | (refine lk_F3 ?_; conv => whnf))
  cases h2 : decide ((c : Int) < 17)
  · have h17 : c = 17 := by simp at h2; omega
    subst h17
    conv => whnf
    repeat (first | (refine go_F3 ?_; conv => whnf) | (refine lk_F3 ?_; conv => whnf))
    refine ⟨i + 1, ?_, ?_, sim_of (rn := [((1, 0, 0), (1, 0, 0)), ((32, 0, 0), (32, 0, 0))]) rfl ?_ ?_⟩
    · (dsimp only; omega)
    · exact okt_F3
    · ((repeat' (first | exact trivial | apply And.intro)) <;> (first | rfl | ((rw [show (i + 1) * 17 = i * 17 + 17 by omega]; rfl)) | exact leaf_F3))
    · ((repeat' (first | exact trivial | apply And.intro)) <;> ((first | refine ⟨_, _, rfl, rfl, ?_⟩ ); first | rfl | ((rw [show (i + 1) * 17 = i * 17 + 17 by omega]; rfl))))
  have h17 : c < 17 := by simp at h2; omega
  have e1 : (i * 17 + c) / 17 = i := by omega
  have e2 : (i * 17 + c) % 17 = c := by omega
  have hin := okF_in hf (i * 17 + c) (by omega)
  have hl := dWs_len f (i * 17 + c)
  rw [e1, e2] at hin
  conv => whnf
  repeat (first | (refine go_F3 ?_; conv => whnf) | (refine lk_F3 ?_; conv => whnf))
  cases h4 : decide (f i c > 0)
  · have h0 : f i c = 0 := by simp at h4; omega
    have es : dWs f (i * 17 + (c + 1)) = dWs f (i * 17 + c) := (show dWs f (i * 17 + c + 1) = _ from dWs_no (by rw [e1, e2]; exact h0))
    conv => whnf
    repeat (first | (refine go_F3 ?_; conv => whnf) | (refine lk_F3 ?_; conv => whnf))
    refine ⟨c + 1, ?_, ?_, sim_of (rn := [((1, 0, 0), (1, 0, 0)), ((32, 0, 0), (32, 0, 0))]) rfl ?_ ?_⟩
    · (dsimp only; omega)
    · exact okt_F3
    · ((repeat' (first | exact trivial | apply And.intro)) <;> (first | rfl | ((rw [es]; rfl)) | exact leaf_F3))
    · ((repeat' (first | exact trivial | apply And.intro)) <;> ((first | refine ⟨_, _, rfl, rfl, ?_⟩ ); first | rfl | ((rw [es]; rfl))))
  have h0 : ¬ f i c = 0 := by simp at h4; omega
  have es : dWs f (i * 17 + (c + 1)) = dWs f (i * 17 + c) ++ [dWd f (i * 17 + c)] := (show dWs f (i * 17 + c + 1) = _ from dWs_yes (by rw [e1, e2]; exact h0))
  have hs1 := decB_size (n := (i : Int)) (by omega)
  have hs2 := decB_size (n := (c : Int)) (by omega)
  have hs3 := decB_size (n := f i c) (by omega)
  have hw := dWd_bs (f := f) e1 e2
  have hc58 : (⟨#[58]⟩ : ByteArray).size = 1 := rfl
  have hc61 : (⟨#[61]⟩ : ByteArray).size = 1 := rfl
  have hml : (List.map bsOf (dWs f (i * 17 + c))).length ≤ 136 := by simp; omega
  conv => whnf
  repeat (first | (refine go_F3 ?_; conv => whnf) | (refine lk_F3 ?_; conv => whnf))
  first | refine ⟨_, _, rfl, sc_F3 (decI_sat (i : Int) (by omega)), ?_⟩ | refine .inl ⟨_, _, rfl, sc_F3 (decI_sat (i : Int) (by omega)), ?_⟩
  conv => whnf
  repeat (first | (refine go_F3 ?_; conv => whnf) | (refine lk_F3 ?_; conv => whnf))
  first | refine ⟨_, _, rfl, sc_F3 (decI_sat (c : Int) (by omega)), ?_⟩ | refine .inl ⟨_, _, rfl, sc_F3 (decI_sat (c : Int) (by omega)), ?_⟩
  conv => whnf
  repeat (first | (refine go_F3 ?_; conv => whnf) | (refine lk_F3 ?_; conv => whnf))
  first | refine ⟨_, _, rfl, sc_F3 (dec32_sat (f i c) (by omega)), ?_⟩ | refine .inl ⟨_, _, rfl, sc_F3 (dec32_sat (f i c) (by omega)), ?_⟩
  conv => whnf
  repeat (first | (refine go_F3 ?_; conv => whnf) | (refine lk_F3 ?_; conv => whnf))
  have ec : strsC ((dWs f (i * 17 + c)).map bsOf) ++ [.string (decB i ++ ⟨#[58]⟩ ++ decB c ++ ⟨#[61]⟩ ++ decB (f i c))] = strsC ((dWs f (i * 17 + (c + 1))).map bsOf) := by rw [hw, es, strsB_append]
  refine ⟨c + 1, ?_, ?_, sim_of (rn := [((1, 0, 0), (1, 0, 0)), ((32, 0, 0), (32, 1, 0))]) rfl ?_ ?_⟩
  · (dsimp only; omega)
  · exact okt_F3
  · ((repeat' (first | exact trivial | apply And.intro)) <;> (first | rfl | (exact vslcS (by rw [es]; simp)) | exact leaf_F3))
  · ((repeat' (first | exact trivial | apply And.intro)) <;> ((first | refine ⟨_, _, rfl, rfl, ?_⟩ ); first | rfl | (exact cset ec)))
end Go.Proofs.YtdbhfobnmlogeaaDoor
