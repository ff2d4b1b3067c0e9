import Derived.Test.YtdbhfobnmlogeaaDoorP2
/- Drips read from their texts: plain words, both sides, and the law. -/
set_option linter.unusedVariables false
set_option linter.unusedSimpArgs false
set_option maxRecDepth 4000
namespace Go.V
/- Words for the walks of this text: their default arguments are tried where they are used. -/
theorem go_F9 {P Q : Prop} (k : Q) (h : P := by first | exact strOk (by first | omega | (simp; omega)) | exact Nat.le_of_ble_eq_true rfl | exact rfl | decide | omega | (simp [splice]; done) | (constructor <;> omega) | (simp [splice]; omega)) : P ∧ Q := ⟨h, k⟩
theorem lk_F9 {α : Type} {o : Option α} {K : α → Prop} {x : α} (k : K x) (h : o = some x := by first | exact strA (by simp; omega) | exact strA' (by simp; omega) | exact watA (by omega) | exact watA' (by omega) | exact dripA (by omega) (by omega) | exact roofN (by omega) (by omega)) : optK o K := optK_of h k
theorem sc_F9 {P : Program} {g : FuncId} {args args' : List D} {res : D} (h : Sat P g args res) (e : args' = args := by repeat (first | rfl | exact vfull (by first | (simp [splice]; done) | (simp [splice]; omega)) | exact rfull (by first | (simp [splice]; done) | (simp [splice]; omega)) | exact vdrow8 (by simp; done) (by omega) | exact vsplice (by simp) (by simp) | refine ceq ?_ ?_ | refine Eq.trans (vsplice (by first | (simp; done) | (simp; omega)) (by first | (simp; done) | (simp; omega))) ?_)) : Sat P g args' res := Sat.of_eq h e
theorem leaf_F9 {P : Prop} (h : P := by first | rfl | exact succ8 (by omega) | exact succ64 (by omega) | exact CapOk.fn (by assumption) _ _ | exact vintS (by omega) | exact vintS (by rw [w64 (by omega) (by omega)]; omega) | exact vintS (by rw [w8 (by omega) (by omega)]; omega) | exact vslcS (by omega) | exact vslcS (by simp)) : P := h
theorem hold_F9 {P : Prop} (h : P := by (repeat' (first | exact trivial | apply And.intro)) <;> (first | rfl | exact succ8 (by omega) | exact succ64 (by omega) | exact CapOk.fn (by assumption) _ _ | exact vintS (by omega) | exact vintS (by rw [w64 (by omega) (by omega)]; omega) | exact vintS (by rw [w8 (by omega) (by omega)]; omega) | exact vslcS (by omega) | exact vslcS (by simp))) : P := h
theorem okt_F9 {P : Prop} (h : P := by first | omega | (dsimp only; omega) | ((repeat' apply And.intro) <;> omega) | (dsimp only; (repeat' apply And.intro) <;> omega) | trivial) : P := h
end Go.V
namespace Go.V
open Go.Lib in
theorem idx_part {c : UInt8} : ∀ {x r : List UInt8}, (∀ b ∈ x, b ≠ c) → index (x ++ c :: r) [c] = x.length
  | [], r, _ => idx_cons_eq c r
  | b :: x, r, h => by
    have ih := idx_part (c := c) (x := x) (r := r) fun y hy => h y (by simp [hy])
    rw [List.cons_append, idx_cons_ne (h b (by simp)), ih, if_neg (by simp)]
    simp
theorem cut_part {c : UInt8} {x r : List UInt8} (h : ∀ b ∈ x, b ≠ c) : Lib.cut (x ++ c :: r) [c] = (x, r, true) := by
  unfold Lib.cut
  rw [idx_part h, if_pos (by omega)]
  have e1 : (x ++ c :: r).take ((x.length : Int)).toNat = x := by simp
  have e2 : (x ++ c :: r).drop (((x.length : Int)).toNat + [c].length) = r := by
    rw [Int.toNat_natCast, List.length_singleton, ← List.drop_drop]; simp
  rw [e1, e2]
theorem dg_ne {n : Nat} {c : UInt8} (h : isDg c = false) : ∀ b ∈ Lib.decDigits n, b ≠ c := fun b hb e => by
  have := List.all_eq_true.1 (dec_dig n) b hb
  rw [e, h] at this; cases this
/-- The word for a number of drips at some place. -/
def wdP (i c n : Nat) : List UInt8 := Lib.decDigits i ++ 58 :: (Lib.decDigits c ++ 61 :: Lib.decDigits n)
theorem itoa_nat {n : Int} (h : 0 ≤ n) : Lib.itoa n = Lib.decDigits n.toNat := by unfold Lib.itoa; rw [if_neg (by omega)]
theorem dWd_wdP {f : Tb} {k : Nat} (h : 0 ≤ f (k / 17) (k % 17)) : dWd f k = wdP (k / 17) (k % 17) (f (k / 17) (k % 17)).toNat := by
  unfold dWd wdP
  rw [itoa_nat (by omega), itoa_nat (by omega), itoa_nat h, Int.toNat_natCast, Int.toNat_natCast]
  simp
/-- What the program reads of a word. -/
structure Rd where
  i : Int
  c : Int
  n : Int
  ok : Bool
def rdP (x : List UInt8) : Rd :=
  let u := (Lib.cut x [58]).1
  let r := (Lib.cut x [58]).2.1
  let v := (Lib.cut r [61]).1
  let w := (Lib.cut r [61]).2.1
  ⟨nbN u, nbN v, nbN w, nbB u && (nbB v && (nbB w && (decide (nbN u < 8) && (decide (nbN v < 17) && decide (nbN w ≤ 1000)))))⟩
theorem rdP_wd {i c n : Nat} (hi : i < 8) (hc : c < 17) (hn : n ≤ 1000) : rdP (wdP i c n) = ⟨i, c, n, true⟩ := by
  have h1 : Lib.cut (wdP i c n) [58] = (Lib.decDigits i, Lib.decDigits c ++ 61 :: Lib.decDigits n, true) := cut_part (dg_ne (by decide))
  have h2 : Lib.cut (Lib.decDigits c ++ 61 :: Lib.decDigits n) [61] = (Lib.decDigits c, Lib.decDigits n, true) := cut_part (dg_ne (by decide))
  have b1 := dec_nb (n := i) (by omega)
  have b2 := dec_nb (n := c) (by omega)
  have b3 := dec_nb (n := n) (by omega)
  have n1 : nbN (Lib.decDigits i) = i := by unfold nbN; rw [if_pos b1, dec_num]
  have n2 : nbN (Lib.decDigits c) = c := by unfold nbN; rw [if_pos b2, dec_num]
  have n3 : nbN (Lib.decDigits n) = n := by unfold nbN; rw [if_pos b3, dec_num]
  unfold rdP
  simp only [h1, h2, b1, b2, b3, n1, n2, n3]
  simp; omega
/-- What the reference reads of a word. -/
def sdB (x : List UInt8) : Bool :=
  let P := spl 61 x
  let A := spl 58 (P.getD 0 [])
  decide (P.length = 2) && (decide (A.length = 2) && (nbB (A.getD 0 []) && (nbB (A.getD 1 []) && (nbB (P.getD 1 []) &&
    (decide (nbN (A.getD 0 []) < 8) && (decide (nbN (A.getD 1 []) < 17) && (decide (1 ≤ nbN (P.getD 1 [])) && decide (nbN (P.getD 1 []) ≤ 1000))))))))
theorem spl_two {c : UInt8} {x p q : List UInt8} (h : spl c x = [p, q]) : x = p ++ c :: q := by
  have := spl_cat c x
  rw [h] at this
  unfold catL at this
  simp only [List.flatMap_cons, List.flatMap_nil, List.append_nil, List.append_assoc, List.singleton_append] at this
  have h2 : (p ++ c :: q) ++ [c] = x ++ [c] := by simpa using this
  exact (List.append_cancel_right h2).symm
theorem two_of {α : Type} {l : List α} {d : α} (h : l.length = 2) : l = [l.getD 0 d, l.getD 1 d] := by
  match l, h with
  | [a, b], _ => rfl
theorem nbN_nat {x : List UInt8} (h : nbB x = true) : nbN x = (numV x : Nat) ∧ x = Lib.decDigits (numV x) := ⟨by unfold nbN; rw [if_pos h], (nb_dec h).symm⟩
theorem sdB_wd {x : List UInt8} (h : sdB x = true) : ∃ i c n : Nat, i < 8 ∧ c < 17 ∧ 1 ≤ n ∧ n ≤ 1000 ∧ x = wdP i c n ∧
    nbN ((spl 58 ((spl 61 x).getD 0 [])).getD 0 []) = i ∧ nbN ((spl 58 ((spl 61 x).getD 0 [])).getD 1 []) = c ∧ nbN ((spl 61 x).getD 1 []) = n := by
  unfold sdB at h
  simp only [Bool.and_eq_true, decide_eq_true_eq] at h
  obtain ⟨h1, h2, b1, b2, b3, r1, r2, r3, r4⟩ := h
  have e1 := two_of (d := []) h1
  have e2 := two_of (d := []) h2
  obtain ⟨n1, d1⟩ := nbN_nat b1
  obtain ⟨n2, d2⟩ := nbN_nat b2
  obtain ⟨n3, d3⟩ := nbN_nat b3
  have x1 := spl_two e1
  have x2 := spl_two e2
  refine ⟨_, _, _, ?_, ?_, ?_, ?_, ?_, n1, n2, n3⟩
  · omega
  · omega
  · omega
  · omega
  · conv => lhs; rw [x1, x2, d1, d2, d3]
    unfold wdP; simp
theorem wd_spl {i c n : Nat} : spl 61 (wdP i c n) = [Lib.decDigits i ++ 58 :: Lib.decDigits c, Lib.decDigits n] ∧ spl 58 (Lib.decDigits i ++ 58 :: Lib.decDigits c) = [Lib.decDigits i, Lib.decDigits c] := by
  constructor
  · have e : wdP i c n = (Lib.decDigits i ++ 58 :: Lib.decDigits c) ++ 61 :: Lib.decDigits n := by unfold wdP; simp
    rw [e, spl_part, spl_last (dg_ne (by decide))]
    intro b hb
    rcases List.mem_append.1 hb with h | h
    · exact dg_ne (by decide) b h
    · rcases List.mem_cons.1 h with rfl | h
      · decide
      · exact dg_ne (by decide) b h
  · rw [spl_part (dg_ne (by decide)), spl_last (dg_ne (by decide))]
theorem sdB_of {i c n : Nat} (hi : i < 8) (hc : c < 17) (hn : 1 ≤ n ∧ n ≤ 1000) : sdB (wdP i c n) = true := by
  have b1 := dec_nb (n := i) (by omega)
  have b2 := dec_nb (n := c) (by omega)
  have b3 := dec_nb (n := n) (by omega)
  have n1 : nbN (Lib.decDigits i) = i := by unfold nbN; rw [if_pos b1, dec_num]
  have n2 : nbN (Lib.decDigits c) = c := by unfold nbN; rw [if_pos b2, dec_num]
  have n3 : nbN (Lib.decDigits n) = n := by unfold nbN; rw [if_pos b3, dec_num]
  have w1 := (wd_spl (i:=i) (c:=c) (n:=n)).1
  have w2 := (wd_spl (i:=i) (c:=c) (n:=n)).2
  unfold sdB
  simp only [w1, List.getD_cons_zero, List.getD_cons_succ, w2, b1, b2, b3, n1, n2, n3]
  simp; omega
/-- The drips of some words. -/
def aF (W : List (List UInt8)) : Tb := W.foldl (fun f x => if (rdP x).ok = true then putM f (rdP x).i.toNat (rdP x).c.toNat (rdP x).n else f) fun _ _ => 0
theorem aF_snoc (W : List (List UInt8)) (x : List UInt8) : aF (W ++ [x]) = if (rdP x).ok = true then putM (aF W) (rdP x).i.toNat (rdP x).c.toNat (rdP x).n else aF W := by unfold aF; rw [List.foldl_append]; rfl
theorem wd_nsp {i c n : Nat} : ∀ b ∈ wdP i c n, b ≠ 32 := by
  intro b hb
  unfold wdP at hb
  rcases List.mem_append.1 hb with h | h
  · exact dg_ne (by decide) b h
  · rcases List.mem_cons.1 h with rfl | h
    · decide
    · rcases List.mem_append.1 h with h | h
      · exact dg_ne (by decide) b h
      · rcases List.mem_cons.1 h with rfl | h
        · decide
        · exact dg_ne (by decide) b h
theorem spl_join {c : UInt8} : ∀ {W : List (List UInt8)}, W ≠ [] → (∀ x ∈ W, ∀ b ∈ x, b ≠ c) → spl c (Lib.join W [c]) = W
  | [], h, _ => absurd rfl h
  | [x], _, h => by rw [Lib.join_one]; exact spl_last (h x (by simp))
  | x :: y :: W, _, h => by
    have ih := spl_join (c := c) (W := y :: W) (by simp) fun z hz => h z (by simp [hz])
    have e : Lib.join (x :: y :: W) [c] = x ++ c :: Lib.join (y :: W) [c] := by
      rw [Lib.join_cons, Lib.join_cons]; unfold Lib.joinTail; simp
    rw [e, spl_part (h x (by simp)), ih]
theorem join_spl (c : UInt8) : ∀ l : List UInt8, Lib.join (spl c l) [c] = l
  | [] => by simp [spl, Lib.join_one]
  | b :: l => by
    have ih := join_spl c l
    by_cases h : b = c
    · subst h
      rw [spl_hit]
      cases hs : spl b l with
      | nil => exact absurd hs (spl_ne b l)
      | cons x xs =>
        rw [hs] at ih
        rw [Lib.join_cons] at ih ⊢
        unfold Lib.joinTail at *
        simp only [List.map_cons, List.flatten_cons, List.nil_append, List.singleton_append, List.cons_append] at ih ⊢
        rw [ih]
    · cases hs : spl c l with
      | nil => exact absurd hs (spl_ne c l)
      | cons x xs =>
        rw [spl_miss h hs]
        rw [hs] at ih
        rw [Lib.join_cons] at ih ⊢
        rw [List.cons_append, ih]
/-- The words of drips that have a text. -/
theorem dWs_wd {f : Tb} (h : ∀ k, k < 136 → 0 ≤ f (k / 17) (k % 17) ∧ f (k / 17) (k % 17) ≤ 1000) : ∀ n, n ≤ 136 → ∀ x ∈ dWs f n, ∃ k, k < n ∧ f (k / 17) (k % 17) ≠ 0 ∧ x = wdP (k / 17) (k % 17) (f (k / 17) (k % 17)).toNat
  | 0, _, x, hx => by simp [dWs] at hx
  | n + 1, hn, x, hx => by
    by_cases h0 : f (n / 17) (n % 17) = 0
    · rw [dWs_no h0] at hx
      obtain ⟨k, h1, h2, h3⟩ := dWs_wd h n (by omega) x hx
      exact ⟨k, by omega, h2, h3⟩
    · rw [dWs_yes h0] at hx
      rcases List.mem_append.1 hx with hx | hx
      · obtain ⟨k, h1, h2, h3⟩ := dWs_wd h n (by omega) x hx
        exact ⟨k, by omega, h2, h3⟩
      · rw [List.mem_singleton] at hx
        exact ⟨n, by omega, h0, by rw [hx]; exact dWd_wdP (h n (by omega)).1⟩
theorem aF_dWs {f : Tb} (h : ∀ k, k < 136 → 0 ≤ f (k / 17) (k % 17) ∧ f (k / 17) (k % 17) ≤ 1000) : ∀ n, n ≤ 136 → ∀ k, k < 136 → aF (dWs f n) (k / 17) (k % 17) = if k < n then f (k / 17) (k % 17) else 0
  | 0, _, k, hk => by simp [dWs, aF]
  | n + 1, hn, k, hk => by
    have ih := aF_dWs h n (by omega) k hk
    by_cases h0 : f (n / 17) (n % 17) = 0
    · rw [dWs_no h0, ih]
      by_cases hkn : k < n
      · rw [if_pos hkn, if_pos (by omega)]
      · rw [if_neg hkn]
        by_cases e : k = n
        · subst e; rw [if_pos (by omega), h0]
        · rw [if_neg (by omega)]
    · have hb := h n (by omega)
      rw [dWs_yes h0, aF_snoc, dWd_wdP hb.1, rdP_wd (by omega) (by omega) (by omega), if_pos rfl]
      simp only [putM, Int.toNat_natCast]
      by_cases e : k = n
      · subst e
        rw [if_pos ⟨rfl, rfl⟩, if_pos (by omega)]; omega
      · rw [if_neg (by omega), ih]
        by_cases hkn : k < n
        · rw [if_pos hkn, if_pos (by omega)]
        · rw [if_neg hkn, if_neg (by omega)]
theorem dWs_congr {f g : Tb} : ∀ n, (∀ k, k < n → f (k / 17) (k % 17) = g (k / 17) (k % 17)) → dWs f n = dWs g n
  | 0, _ => rfl
  | n + 1, h => by
    have ih := dWs_congr n fun k hk => h k (by omega)
    have hn := h n (by omega)
    rw [dWs, dWs, hn, ih]
    unfold dWd
    rw [hn]
/-! What is read. -/
def rpF (l : List UInt8) : Tb := aF (spl 32 l)
def rpOk (r : Roof) (l : List UInt8) : Prop := okF r (rpF l) = true ∧ dtT (rpF l) 136 = l
theorem rp_words {r : Roof} {l : List UInt8} (h : rpOk r l) (hne : l ≠ []) : spl 32 l = dWs (rpF l) 136 := by
  obtain ⟨h1, h2⟩ := h
  have hin := okF_in h1
  have hw : dWs (rpF l) 136 ≠ [] := fun e => by
    unfold dtT at h2
    rw [e] at h2
    exact hne h2.symm
  have := spl_join (c := 32) hw fun x hx => by
    obtain ⟨k, _, _, rfl⟩ := dWs_wd hin 136 (Nat.le_refl _) x hx
    exact wd_nsp
  unfold dtT at h2
  rw [h2] at this
  exact this
theorem rp_zero (r : Roof) : rpOk r [] := by
  have e : rpF [] = fun _ _ => 0 := by
    unfold rpF
    show aF [[]] = _
    have : (rdP []).ok = false := by decide
    unfold aF
    simp [this]
  refine ⟨?_, ?_⟩
  · rw [e]; refine okF_yes fun k hk => ?_
    unfold okFc deepB; simp
  · rw [e]
    have : ∀ n, dWs (fun _ _ => 0) n = [] := fun n => by
      induction n with
      | zero => rfl
      | succ n ih => rw [dWs, if_pos rfl, ih]
    unfold dtT
    rw [this]; rfl
def rpB (r : Roof) (l : List UInt8) : Bool := okF r (rpF l) && decide (dtT (rpF l) 136 = l)
theorem rpB_ok {r : Roof} {l : List UInt8} (h : rpB r l = true) : rpOk r l := by
  unfold rpB at h
  simp at h
  exact h
theorem rpB_nil (r : Roof) : rpB r [] = true := by
  have := rp_zero r
  unfold rpB
  rw [this.1, this.2]; rfl
theorem rpF_nil : rpF [] = fun _ _ => 0 := by
  unfold rpF
  show aF [[]] = _
  have : (rdP []).ok = false := by decide
  unfold aF
  simp [this]
/-- The place of a word, as the reference reads it. -/
def posW (x : List UInt8) : Int := 17 * nbN ((spl 58 ((spl 61 x).getD 0 [])).getD 0 []) + nbN ((spl 58 ((spl 61 x).getD 0 [])).getD 1 [])
theorem posW_wd {i c n : Nat} (hi : i < 8) (hc : c < 17) : posW (wdP i c n) = 17 * i + c := by
  have w1 := (wd_spl (i:=i) (c:=c) (n:=n)).1
  have w2 := (wd_spl (i:=i) (c:=c) (n:=n)).2
  have b1 := dec_nb (n := i) (by omega)
  have b2 := dec_nb (n := c) (by omega)
  have n1 : nbN (Lib.decDigits i) = i := by unfold nbN; rw [if_pos b1, dec_num]
  have n2 : nbN (Lib.decDigits c) = c := by unfold nbN; rw [if_pos b2, dec_num]
  unfold posW
  simp only [w1, List.getD_cons_zero, List.getD_cons_succ, w2, n1, n2]
theorem dWs_pw {f : Tb} (h : ∀ k, k < 136 → 0 ≤ f (k / 17) (k % 17) ∧ f (k / 17) (k % 17) ≤ 1000) : ∀ n, n ≤ 136 → (dWs f n).Pairwise fun x y => posW x < posW y
  | 0, _ => by simp [dWs]
  | n + 1, hn => by
    have ih := dWs_pw h n (by omega)
    by_cases h0 : f (n / 17) (n % 17) = 0
    · rw [dWs_no h0]; exact ih
    · rw [dWs_yes h0, List.pairwise_append]
      refine ⟨ih, by simp, fun x hx y hy => ?_⟩
      rw [List.mem_singleton] at hy
      obtain ⟨k, h1, h2, rfl⟩ := dWs_wd h n (by omega) x hx
      rw [hy, dWd_wdP (h n (by omega)).1, posW_wd (by omega) (by omega), posW_wd (by omega) (by omega)]
      omega
theorem mem_getD {α : Type} {l : List α} {i : Nat} {d : α} (h : i < l.length) : l.getD i d ∈ l := by
  rw [List.getD_eq_getElem?_getD, List.getElem?_eq_getElem h]; exact List.getElem_mem h
/-- A word of a text that is read. -/
theorem rp_word {r : Roof} {l : List UInt8} (h : rpB r l = true) (hne : l ≠ []) {i : Nat} (hi : i < (spl 32 l).length) : ∃ a c n : Nat, a < 8 ∧ c < 17 ∧ 1 ≤ n ∧ n ≤ 1000 ∧ (spl 32 l).getD i [] = wdP a c n := by
  have hok := rpB_ok h
  have hin := okF_in hok.1
  have hx : (spl 32 l).getD i [] ∈ spl 32 l := mem_getD hi
  generalize (spl 32 l).getD i [] = x at *
  rw [rp_words hok hne] at hx
  obtain ⟨k, h1, h2, h3⟩ := dWs_wd hin 136 (Nat.le_refl _) x hx
  have := hin k h1
  exact ⟨_, _, _, by omega, by omega, by omega, by omega, h3⟩
theorem rp_count {r : Roof} {l : List UInt8} (h : 136 < (spl 32 l).length) (hne : l ≠ []) : rpB r l = false := by
  cases hb : rpB r l
  · rfl
  · have h1 := rp_words (rpB_ok hb) hne
    have h2 := dWs_len (rpF l) 136
    rw [h1] at h; omega
theorem rp_bad {r : Roof} {l : List UInt8} (hne : l ≠ []) {i : Nat} (hi : i < (spl 32 l).length) (h : (rdP ((spl 32 l).getD i [])).ok = false) : rpB r l = false := by
  cases hb : rpB r l
  · rfl
  · obtain ⟨a, c, n, h1, h2, h3, h4, h5⟩ := rp_word hb hne hi
    rw [h5, rdP_wd h1 h2 h4] at h; cases h
theorem rp_badS {r : Roof} {l : List UInt8} (hne : l ≠ []) {i : Nat} (hi : i < (spl 32 l).length) (h : sdB ((spl 32 l).getD i []) = false) : rpB r l = false := by
  cases hb : rpB r l
  · rfl
  · obtain ⟨a, c, n, h1, h2, h3, h4, h5⟩ := rp_word hb hne hi
    rw [h5, sdB_of h1 h2 ⟨h3, h4⟩] at h; cases h
theorem aF_in (W : List (List UInt8)) : DrpIn (aF W) := by
  have : ∀ (n : Nat) (W : List (List UInt8)), W.length = n → ∀ i c, 0 ≤ aF W i c ∧ aF W i c ≤ 1000 := by
    intro n
    induction n with
    | zero => intro W hW i c; have : W = [] := List.length_eq_zero_iff.1 hW; subst this; simp [aF]
    | succ n ih =>
      intro W hW i c
      have hne : W ≠ [] := by intro e; rw [e] at hW; simp at hW
      have e := (List.dropLast_concat_getLast hne).symm
      generalize W.dropLast = V at e
      generalize W.getLast hne = x at e
      subst e
      have ihV := ih V (by simp at hW; omega) i c
      rw [aF_snoc]
      split
      · rename_i hok
        unfold putM
        split
        · have : 0 ≤ (rdP x).n := by unfold rdP; simp only; unfold nbN; split <;> omega
          unfold rdP at hok this ⊢
          simp at hok this ⊢
          exact ⟨this, by omega⟩
        · exact ihV
      · exact ihV
  exact ⟨fun i c => by have := this _ W rfl i c; omega⟩
theorem okF_congr {r : Roof} {f g : Tb} (h : ∀ k, k < 136 → f (k / 17) (k % 17) = g (k / 17) (k % 17)) : okF r f = okF r g := by
  unfold okF
  rw [Bool.eq_iff_iff, List.all_eq_true, List.all_eq_true]
  constructor <;> intro h1 k hk <;> have := h1 k hk <;> have hk' : k < 136 := by simpa using hk
  all_goals
    unfold okFc at this ⊢
    have e := h k hk'
  · rw [← e]; exact this
  · rw [e]; exact this
/-- The reference's drips when some words are read. -/
structure SpI (W : List (List UInt8)) (i m : Nat) (f : Tb) : Prop where
  le : i ≤ W.length
  hm : m ≤ 136
  z : ∀ k, m ≤ k → k < 136 → f (k / 17) (k % 17) = 0
  b : ∀ k, k < 136 → 0 ≤ f (k / 17) (k % 17) ∧ f (k / 17) (k % 17) ≤ 1000
  w : dWs f m = W.take i
  d : DrpIn f
theorem SpI.zero (W : List (List UInt8)) : SpI W 0 0 fun _ _ => 0 := ⟨by omega, by omega, fun _ _ _ => rfl, fun _ _ => by simp, rfl, ⟨fun _ _ => by simp⟩⟩
theorem dWs_flat {f : Tb} {m : Nat} : ∀ n, m ≤ n → (∀ k, m ≤ k → k < n → f (k / 17) (k % 17) = 0) → dWs f n = dWs f m
  | 0, h, _ => by rw [show m = 0 by omega]
  | n + 1, h, hz => by
    by_cases e : m = n + 1
    · rw [e]
    · rw [dWs_no (hz n (by omega) (by omega)), dWs_flat n (by omega) fun k h1 h2 => hz k h1 (by omega)]
theorem SpI.step {W : List (List UInt8)} {i m : Nat} {f : Tb} (h : SpI W i m f) (hi : i < W.length) {a c n : Nat} (ha : a < 8) (hc : c < 17) (hn : 1 ≤ n ∧ n ≤ 1000)
    (hx : W.getD i [] = wdP a c n) (hm : m ≤ 17 * a + c) : SpI W (i + 1) (17 * a + c + 1) (putM f a c n) := by
  have e1 : (17 * a + c) / 17 = a := by omega
  have e2 : (17 * a + c) % 17 = c := by omega
  have hp : putM f a c n ((17 * a + c) / 17) ((17 * a + c) % 17) = n := by rw [e1, e2]; unfold putM; rw [if_pos ⟨rfl, rfl⟩]
  have hq : ∀ k, k ≠ 17 * a + c → putM f a c n (k / 17) (k % 17) = f (k / 17) (k % 17) := fun k hk => by unfold putM; rw [if_neg (by omega)]
  refine ⟨hi, by omega, fun k h1 h2 => ?_, fun k h1 => ?_, ?_, ⟨fun x y => ?_⟩⟩
  · rw [hq k (by omega)]; exact h.z k (by omega) h2
  · by_cases e : k = 17 * a + c
    · rw [e, hp]; omega
    · rw [hq k e]; exact h.b k h1
  · rw [dWs_yes (by rw [hp]; omega), dWd_wdP (by rw [hp]; omega), hp, e1, e2, dWs_congr (g := f) _ (fun k hk => hq k (by omega)), dWs_flat _ hm (fun k h1 h2 => h.z k h1 (by omega)), h.w,
      Int.toNat_natCast, ← hx, List.take_add_one, List.getD_eq_getElem?_getD]
    simp [hi]
  · unfold putM
    split
    · omega
    · exact h.d.t x y
theorem SpI.done {l : List UInt8} {m : Nat} {f : Tb} (h : SpI (spl 32 l) (spl 32 l).length m f) (r : Roof) : dripC (rpF l) = dripC f ∧ rpB r l = okF r f := by
  have hw := h.w
  rw [List.take_length, ← dWs_flat 136 h.hm (fun k h1 h2 => h.z k h1 h2)] at hw
  have hagree : ∀ k, k < 136 → rpF l (k / 17) (k % 17) = f (k / 17) (k % 17) := fun k hk => by
    unfold rpF
    rw [← hw, aF_dWs h.b 136 (Nat.le_refl _) k hk, if_pos hk]
  have hT : dtT (rpF l) 136 = l := by
    unfold dtT
    rw [dWs_congr 136 hagree, hw]; exact join_spl 32 l
  refine ⟨dripC_congr fun i c hi hc => ?_, ?_⟩
  · have := hagree (17 * i + c) (by omega)
    rw [show (17 * i + c) / 17 = i by omega, show (17 * i + c) % 17 = c by omega] at this
    exact this
  · unfold rpB
    rw [hT, okF_congr hagree]; simp
/-- The last place is ahead of all words to come, if the text is one. -/
theorem rp_next {r : Roof} {l : List UInt8} (hne : l ≠ []) {i j : Nat} (h : rpB r l = true) (hij : i < j) (hj : j < (spl 32 l).length) : posW ((spl 32 l).getD i []) < posW ((spl 32 l).getD j []) := by
  have hok := rpB_ok h
  have hpw := dWs_pw (okF_in hok.1) 136 (Nat.le_refl _)
  rw [← rp_words hok hne] at hpw
  rw [List.pairwise_iff_getElem] at hpw
  have := hpw i j (by omega) hj hij
  simpa [List.getD_eq_getElem?_getD, List.getElem?_eq_getElem hj, List.getElem?_eq_getElem (show i < (spl 32 l).length by omega)] using this
theorem posW_nn (x : List UInt8) : 0 ≤ posW x := by
  unfold posW nbN
  split <;> split <;> omega
def rpV (r : Roof) (l : List UInt8) : D := if okR r = true then (if rpB r l = true then .tup [dripD (rpF l), .v (.int .i64 0)] else .tup [dripD fun _ _ => 0, .v (.int .i64 5)]) else .tup [dripD fun _ _ => 0, .v (.int .i64 1)]
theorem neT {n : Nat} (h : ((n : Int) != 2) = true) : decide (n = 2) = false := by simp at h ⊢; omega
theorem neF {n : Nat} (h : ((n : Int) != 2) = false) : n = 2 := by simp at h; omega
theorem cut_len {l : List UInt8} (c : UInt8) : (Lib.cut l [c]).1.length ≤ l.length ∧ (Lib.cut l [c]).2.1.length ≤ l.length := by
  unfold Lib.cut
  split
  · simp; omega
  · simp
theorem aF_take {W : List (List UInt8)} {i : Nat} (hi : i < W.length) : aF (W.take (i + 1)) = if (rdP (W.getD i [])).ok = true then putM (aF (W.take i)) (rdP (W.getD i [])).i.toNat (rdP (W.getD i [])).c.toNat (rdP (W.getD i [])).n else aF (W.take i) := by
  rw [← aF_snoc]
  congr 1
  rw [List.take_add_one, List.getD_eq_getElem?_getD]; simp [hi]
end Go.V
namespace Go.Proofs.YtdbhfobnmlogeaaDoor
open Go.V
theorem rdP_rd (x : List UInt8) : (rdP x).ok = (rdB (Lib.cut x [58]).1 && (rdB (Lib.cut (Lib.cut x [58]).2.1 [61]).1 && (rdB (Lib.cut (Lib.cut x [58]).2.1 [61]).2.1 &&
      (decide (rdN (Lib.cut x [58]).1 < 8) && (decide (rdN (Lib.cut (Lib.cut x [58]).2.1 [61]).1 < 17) && decide (rdN (Lib.cut (Lib.cut x [58]).2.1 [61]).2.1 ≤ 1000)))))) ∧
    ((rdP x).ok = true → ∃ a c n : Nat, a < 8 ∧ c < 17 ∧ n ≤ 1000 ∧ rdP x = ⟨a, c, n, true⟩ ∧ rdN (Lib.cut x [58]).1 = a ∧ rdN (Lib.cut (Lib.cut x [58]).2.1 [61]).1 = c ∧ rdN (Lib.cut (Lib.cut x [58]).2.1 [61]).2.1 = n) := by
  have hw : rdP x = ⟨nbN (Lib.cut x [58]).1, nbN (Lib.cut (Lib.cut x [58]).2.1 [61]).1, nbN (Lib.cut (Lib.cut x [58]).2.1 [61]).2.1, _⟩ := rfl
  rw [hw]
  generalize (Lib.cut x [58]).1 = u
  generalize (Lib.cut (Lib.cut x [58]).2.1 [61]).1 = v
  generalize (Lib.cut (Lib.cut x [58]).2.1 [61]).2.1 = w
  have h1 := rd_nb u 7 (by omega)
  have h2 := rd_nb v 16 (by omega)
  have h3 := rd_nb w 1000 (by omega)
  have g : ∀ y : List UInt8, nbB y = true → nbN y = (numV y : Nat) := fun y h => by unfold nbN; rw [if_pos h]
  have q : ∀ y : List UInt8, nbB y = true → numV y ≤ 1000000000 → rdN y = numV y := fun y h h' => (rd_val h h').1
  have gu := g u
  have gv := g v
  have gw := g w
  constructor
  · rw [Bool.eq_iff_iff] at h1 h2 h3 ⊢
    simp only [Bool.and_eq_true, decide_eq_true_eq] at h1 h2 h3 ⊢
    constructor
    · rintro ⟨a1, a2, a3, a4, a5, a6⟩
      rw [gu a1] at a4
      rw [gv a2] at a5
      rw [gw a3] at a6
      obtain ⟨x1, x2⟩ := h1.2 ⟨a1, by omega⟩
      obtain ⟨y1, y2⟩ := h2.2 ⟨a2, by omega⟩
      obtain ⟨z1, z2⟩ := h3.2 ⟨a3, by omega⟩
      exact ⟨x1, y1, z1, by omega, by omega, by omega⟩
    · rintro ⟨a1, a2, a3, a4, a5, a6⟩
      obtain ⟨x1, x2⟩ := h1.1 ⟨a1, by omega⟩
      obtain ⟨y1, y2⟩ := h2.1 ⟨a2, by omega⟩
      obtain ⟨z1, z2⟩ := h3.1 ⟨a3, by omega⟩
      rw [gu x1, gv y1, gw z1]
      exact ⟨x1, y1, z1, by omega, by omega, by omega⟩
  · intro h
    have h0 := h
    simp only [Bool.and_eq_true, decide_eq_true_eq] at h
    obtain ⟨a1, a2, a3, a4, a5, a6⟩ := h
    rw [gu a1] at a4
    rw [gv a2] at a5
    rw [gw a3] at a6
    refine ⟨numV u, numV v, numV w, by omega, by omega, by omega, ?_, q u a1 (by omega), q v a2 (by omega), q w a3 (by omega)⟩
    simp only at h0
    rw [h0, gu a1, gv a2, gw a3]
theorem eqInt32A17_same (w : Nat → Int) : Sat Tryd.prog 94 [watD w, watD w] (.v (.bool true)) := by
  refine sat_of_wp hMix tOk Tryd.func94 rfl rfl Tryd.ntmps94 rfl rfl Tryd.results94 (by kernel_rfl) ?_
  conv => whnf
  repeat (first | (refine go_F9 ?_; conv => whnf) | (refine lk_F9 ?_; conv => whnf))
  refine loop_rule (α := Nat) (fun i => [(2, .ptr (2, 0, 0) 0), (3, .ptr (3, 0, 0) 0), (5, .v (.int .i64 i))]) (fun i => [((2, 0, 0), watD w), ((3, 0, 0), watD w)]) (fun i => i ≤ 17) (fun i => 17 - i) (0) ?_ (sim_of (rn := [((2, 0, 0), (2, 0, 0)), ((3, 0, 0), (3, 0, 0))]) rfl ?_ ?_) ?_
  · exact okt_F9
  · exact hold_F9
  · ((repeat' (first | exact trivial | apply And.intro)) <;> ((first | refine ⟨_, _, rfl, rfl, ?_⟩ ); rfl))
  intro i hi
  conv => whnf
  repeat (first | (refine go_F9 ?_; conv => whnf) | (refine lk_F9 ?_; conv => whnf))
  cases h1 : decide ((i : Int) < 17)
  · conv => whnf
    repeat (first | (refine go_F9 ?_; conv => whnf) | (refine lk_F9 ?_; conv => whnf))
    first | refine ⟨rfl, _, rfl, ?_⟩ | refine ⟨_, rfl, ?_⟩
    rfl
  have h17 : i < 17 := by simp at h1; omega
  conv => whnf
  repeat (first | (refine go_F9 ?_; conv => whnf) | (refine lk_F9 ?_; conv => whnf))
  rw [show (w i != w i) = false by simp]
  conv => whnf
  repeat (first | (refine go_F9 ?_; conv => whnf) | (refine lk_F9 ?_; conv => whnf))
  refine ⟨i + 1, ?_, ?_, sim_of (rn := [((2, 0, 0), (2, 0, 0)), ((3, 0, 0), (3, 0, 0))]) rfl ?_ ?_⟩
  · (dsimp only; omega)
  · exact okt_F9
  · exact hold_F9
  · ((repeat' (first | exact trivial | apply And.intro)) <;> ((first | refine ⟨_, _, rfl, rfl, ?_⟩ ); rfl))
theorem eqDrips_same (f : Tb) : Sat Tryd.prog 35 [dripD f, dripD f] (.v (.bool true)) := by
  refine sat_of_wp hMix tOk Tryd.func35 rfl rfl Tryd.ntmps35 rfl rfl Tryd.results35 (by kernel_rfl) ?_
  conv => whnf
  repeat (first | (refine go_F9 ?_; conv => whnf) | (refine lk_F9 ?_; conv => whnf))
  refine loop_rule (α := Nat) (fun i => [(2, .ptr (2, 0, 0) 0), (3, .ptr (3, 0, 0) 0), (5, .v (.int .i64 i))]) (fun i => [((2, 0, 0), dripD f), ((3, 0, 0), dripD f)]) (fun i => i ≤ 8) (fun i => 8 - i) (0) ?_ (sim_of (rn := [((2, 0, 0), (2, 0, 0)), ((3, 0, 0), (3, 0, 0))]) rfl ?_ ?_) ?_
  · exact okt_F9
  · exact hold_F9
  · ((repeat' (first | exact trivial | apply And.intro)) <;> ((first | refine ⟨_, _, rfl, rfl, ?_⟩ ); rfl))
  intro i hi
  conv => whnf
  repeat (first | (refine go_F9 ?_; conv => whnf) | (refine lk_F9 ?_; conv => whnf))
  cases h1 : decide ((i : Int) < 8)
  · conv => whnf
    repeat (first | (refine go_F9 ?_; conv => whnf) | (refine lk_F9 ?_; conv => whnf))
    first | refine ⟨rfl, _, rfl, ?_⟩ | refine ⟨_, rfl, ?_⟩
    rfl
  have h8 : i < 8 := by simp at h1; omega
  conv => whnf
  repeat (first | (refine go_F9 ?_; conv => whnf) | (refine lk_F9 ?_; conv => whnf))
  first | refine ⟨_, _, rfl, sc_F9 (eqInt32A17_same (f i)), ?_⟩ | refine .inl ⟨_, _, rfl, sc_F9 (eqInt32A17_same (f i)), ?_⟩
  conv => whnf
  repeat (first | (refine go_F9 ?_; conv => whnf) | (refine lk_F9 ?_; conv => whnf))
  refine ⟨i + 1, ?_, ?_, sim_of (rn := [((2, 0, 0), (2, 0, 0)), ((3, 0, 0), (3, 0, 0))]) rfl ?_ ?_⟩
  · (dsimp only; omega)
  · exact okt_F9
  · exact hold_F9
  · ((repeat' (first | exact trivial | apply And.intro)) <;> ((first | refine ⟨_, _, rfl, rfl, ?_⟩ ); rfl))
theorem implReadDrips_sat (r : Roof) (hr : r.In) (l : List UInt8) (hl : l.length ≤ 1048576) : Sat Tryd.prog 34 [roofD r, .v (.string (bsOf l))] (rpV r l) := by
  have hz : (splice (List.replicate 136 (Value.int .i32 0)) 0 (List.replicate 136 (.int .i32 0))) = List.replicate 136 (.int .i32 0) := splice_all (by simp)
  have bad : ∀ x : Int, D.tup [dripD fun _ _ => 0, .v (.int .i64 x)] = one' [D.v (.agg ⟨(((splice (List.replicate 136 (Value.int .i32 0)) 0 (List.replicate 136 (.int .i32 0))).drop 0).take 136)⟩), .v (.int .i64 x)] := fun x => by
    rw [hz, take_drop0 (by simp)]; unfold dripD; rw [dripC_zero]; rfl
  have bad5 : okR r = true → rpB r l = false → rpV r l = .tup [dripD fun _ _ => 0, .v (.int .i64 5)] := fun h1 h2 => by unfold rpV; rw [if_pos h1, if_neg (by simp [h2])]
  have ce : ((bsOf l).toList == (⟨#[]⟩ : ByteArray).toList) = decide (l = []) := by rw [bs_toList, show (⟨#[]⟩ : ByteArray).toList = [] from bs_toList [], Bool.eq_iff_iff]; simp
  refine sat_of_wp hMix tOk Tryd.func34 rfl rfl Tryd.ntmps34 rfl rfl Tryd.results34 (by kernel_rfl) ?_
  conv => whnf
  repeat (first | (refine go_F9 ?_; conv => whnf) | (refine lk_F9 ?_; conv => whnf))
  first | refine ⟨_, _, rfl, sc_F9 (validRoof_sat r hr), ?_⟩ | refine .inl ⟨_, _, rfl, sc_F9 (validRoof_sat r hr), ?_⟩
  conv => whnf
  repeat (first | (refine go_F9 ?_; conv => whnf) | (refine lk_F9 ?_; conv => whnf))
  cases hR : okR r
  · conv => whnf
    repeat (first | (refine go_F9 ?_; conv => whnf) | (refine lk_F9 ?_; conv => whnf))
    first | refine ⟨rfl, _, rfl, ?_⟩ | refine ⟨_, rfl, ?_⟩
    skip
    unfold rpV; rw [hR]; exact bad 1
  have hb := okR_bounds hR
  conv => whnf
  repeat (first | (refine go_F9 ?_; conv => whnf) | (refine lk_F9 ?_; conv => whnf))
  rw [ce]
  cases hE : decide (l = [])
  case true =>
    have hl0 : l = [] := by simpa using hE
    rw [show rpV r l = .tup [dripD fun _ _ => 0, .v (.int .i64 0)] by unfold rpV; rw [hl0, if_pos hR, if_pos (rpB_nil r), rpF_nil]]
    conv => whnf
    repeat (first | (refine go_F9 ?_; conv => whnf) | (refine lk_F9 ?_; conv => whnf))
    first | refine ⟨rfl, _, rfl, ?_⟩ | refine ⟨_, rfl, ?_⟩
    skip
    exact bad 0
  have hne : l ≠ [] := by simpa using hE
  conv => whnf
  repeat (first | (refine go_F9 ?_; conv => whnf) | (refine lk_F9 ?_; conv => whnf))
  first | refine ⟨_, _, rfl, sc_F9 (split_sat l hl 32), ?_⟩ | refine .inl ⟨_, _, rfl, sc_F9 (split_sat l hl 32), ?_⟩
  conv => whnf
  repeat (first | (refine go_F9 ?_; conv => whnf) | (refine lk_F9 ?_; conv => whnf))
  have hlenM : (List.map bsOf (spl 32 l)).length = (spl 32 l).length := by rw [List.length_map]
  have hMs : (spl 32 l).length ≤ 1048577 := by rw [spl_len, Lib.count_one]; have := List.count_le_length (a := (32 : UInt8)) (l := l); omega
  rw [hlenM]
  cases h2 : decide (((spl 32 l).length : Int) > 136)
  case true =>
    rw [bad5 hR (rp_count (by simp at h2; omega) hne)]
    conv => whnf
    repeat (first | (refine go_F9 ?_; conv => whnf) | (refine lk_F9 ?_; conv => whnf))
    first | refine ⟨rfl, _, rfl, ?_⟩ | refine ⟨_, rfl, ?_⟩
    skip
    exact bad 5
  have hLw : (spl 32 l).length ≤ 136 := by simp at h2; omega
  have hget : ∀ i, sx ((spl 32 l).map bsOf) i = bsOf ((spl 32 l).getD i []) := fun i => sx_map _ _
  have hyl : ∀ i, ((spl 32 l).getD i []).length ≤ l.length := fun i => spl_at i
  have hno := fun (i : Nat) => rp_bad (r := r) (l := l) hne (i := i)
  have htk := fun (i : Nat) => aF_take (W := spl 32 l) (i := i)
  have hend : aF (spl 32 l) = rpF l := rfl
  generalize hws : (spl 32 l).map bsOf = ws at *
  generalize hLL : spl 32 l = L at *
  conv => whnf
  repeat (first | (refine go_F9 ?_; conv => whnf) | (refine lk_F9 ?_; conv => whnf))
  refine loop_rule (α := Nat) (fun i => [(1, .v (.string (bsOf l))), (2, .ptr (2, 0, 0) 0), (4, .ptr (4, 0, 0) 0), (6, .ptr (6, 0, 0) 0), (35, .slc true 1 (30, 0, 0) 0 ws.length), (36, .v (.int .i64 ws.length)), (37, .v (.int .i64 i))]) (fun i => [((2, 0, 0), roofD r), ((4, 0, 0), .v (.agg ⟨List.replicate 136 (.int .i32 0)⟩)), ((6, 0, 0), dripD (aF (L.take i))), ((30, 0, 0), .v (.agg ⟨strsC ws⟩))]) (fun i => i ≤ L.length) (fun i => L.length - i) (0) ?_ (sim_of (rn := [((2, 0, 0), (2, 0, 0)), ((4, 0, 0), (4, 0, 0)), ((6, 0, 0), (6, 0, 0)), ((30, 0, 0), (30, 0, 0))]) rfl ?_ ?_) ?_
  · exact okt_F9
  · exact hold_F9
  · ((repeat' (first | exact trivial | apply And.intro)) <;> ((first | refine ⟨_, _, rfl, rfl, ?_⟩ ); first | rfl | (exact cset (by rw [← dripC_zero]; rfl))))
  intro i hi
  conv => whnf
  repeat (first | (refine go_F9 ?_; conv => whnf) | (refine lk_F9 ?_; conv => whnf))
  cases h4 : decide ((i : Int) < (ws.length : Int))
  · have hiK : i = L.length := by simp at h4; omega
    subst hiK
    rw [List.take_length, hend]
    have hdin : DrpIn (rpF l) := aF_in _
    conv => whnf
    repeat (first | (refine go_F9 ?_; conv => whnf) | (refine lk_F9 ?_; conv => whnf))
    first | refine ⟨_, _, rfl, sc_F9 (areDrips_sat r hr hb (rpF l) hdin), ?_⟩ | refine .inl ⟨_, _, rfl, sc_F9 (areDrips_sat r hr hb (rpF l) hdin), ?_⟩
    conv => whnf
    repeat (first | (refine go_F9 ?_; conv => whnf) | (refine lk_F9 ?_; conv => whnf))
    cases hO : okF r (rpF l)
    · rw [bad5 hR (by unfold rpB; rw [hO]; rfl)]
      conv => whnf
      repeat (first | (refine go_F9 ?_; conv => whnf) | (refine lk_F9 ?_; conv => whnf))
      first | refine ⟨rfl, _, rfl, ?_⟩ | refine ⟨_, rfl, ?_⟩
      skip
      exact bad 5
    conv => whnf
    repeat (first | (refine go_F9 ?_; conv => whnf) | (refine lk_F9 ?_; conv => whnf))
    first | refine ⟨_, _, rfl, sc_F9 (dripsText_sat r (rpF l) hO), ?_⟩ | refine .inl ⟨_, _, rfl, sc_F9 (dripsText_sat r (rpF l) hO), ?_⟩
    conv => whnf
    repeat (first | (refine go_F9 ?_; conv => whnf) | (refine lk_F9 ?_; conv => whnf))
    have cT : (!((bsOf (dtT (rpF l) 136)).toList == (bsOf l).toList)) = !decide (dtT (rpF l) 136 = l) := by rw [bs_toList, bs_toList, Bool.eq_iff_iff]; simp
    rw [cT]
    cases hT : decide (dtT (rpF l) 136 = l)
    · rw [bad5 hR (by unfold rpB; rw [hT, Bool.and_false])]
      conv => whnf
      repeat (first | (refine go_F9 ?_; conv => whnf) | (refine lk_F9 ?_; conv => whnf))
      first | refine ⟨rfl, _, rfl, ?_⟩ | refine ⟨_, rfl, ?_⟩
      skip
      exact bad 5
    rw [show rpV r l = .tup [dripD (rpF l), .v (.int .i64 0)] by unfold rpV rpB; rw [if_pos hR, hO, hT]; rfl]
    conv => whnf
    repeat (first | (refine go_F9 ?_; conv => whnf) | (refine lk_F9 ?_; conv => whnf))
    first | refine ⟨rfl, _, rfl, ?_⟩ | refine ⟨_, rfl, ?_⟩
    skip
    exact congrArg (fun z => D.tup [D.v (.agg ⟨z⟩), .v (.int .i64 0)]) (copied (n := 136) (by simp) (by simp)).symm
  have hiK : i < L.length := by simp at h4; omega
  have hgi : sx ws ((i : Int).toNat * ti9.size) = bsOf (L.getD i []) := by
    show sx ws ((i : Int).toNat * 1) = _
    rw [show (i : Int).toNat * 1 = i by omega]; exact hget i
  have hnoi := hno i hiK
  have hyi := hyl i
  have htki := htk i hiK
  generalize L.getD i [] = y at *
  obtain ⟨ho, hy⟩ := rdP_rd y
  have hu := (cut_len (l := y) 58).1
  have hr1 := (cut_len (l := y) 58).2
  have hv := (cut_len (l := (Lib.cut y [58]).2.1) 61).1
  have hw := (cut_len (l := (Lib.cut y [58]).2.1) 61).2
  conv => whnf
  repeat (first | (refine go_F9 ?_; conv => whnf) | (refine lk_F9 ?_; conv => whnf))
  rw [hgi]
  first | refine ⟨_, _, rfl, sc_F9 (cut_sat y (by omega) 58), ?_⟩ | refine .inl ⟨_, _, rfl, sc_F9 (cut_sat y (by omega) 58), ?_⟩
  conv => whnf
  repeat (first | (refine go_F9 ?_; conv => whnf) | (refine lk_F9 ?_; conv => whnf))
  first | refine ⟨_, _, rfl, sc_F9 (cut_sat (Lib.cut y [58]).2.1 (by omega) 61), ?_⟩ | refine .inl ⟨_, _, rfl, sc_F9 (cut_sat (Lib.cut y [58]).2.1 (by omega) 61), ?_⟩
  conv => whnf
  repeat (first | (refine go_F9 ?_; conv => whnf) | (refine lk_F9 ?_; conv => whnf))
  generalize (Lib.cut (Lib.cut y [58]).2.1 [61]).1 = v at *
  generalize (Lib.cut (Lib.cut y [58]).2.1 [61]).2.1 = w at *
  generalize (Lib.cut y [58]).1 = u at *
  conv => whnf
  repeat (first | (refine go_F9 ?_; conv => whnf) | (refine lk_F9 ?_; conv => whnf))
  first | refine ⟨_, _, rfl, sc_F9 (readDec_sat u (by omega)), ?_⟩ | refine .inl ⟨_, _, rfl, sc_F9 (readDec_sat u (by omega)), ?_⟩
  conv => whnf
  repeat (first | (refine go_F9 ?_; conv => whnf) | (refine lk_F9 ?_; conv => whnf))
  first | refine ⟨_, _, rfl, sc_F9 (readDec_sat v (by omega)), ?_⟩ | refine .inl ⟨_, _, rfl, sc_F9 (readDec_sat v (by omega)), ?_⟩
  conv => whnf
  repeat (first | (refine go_F9 ?_; conv => whnf) | (refine lk_F9 ?_; conv => whnf))
  first | refine ⟨_, _, rfl, sc_F9 (readDec_sat w (by omega)), ?_⟩ | refine .inl ⟨_, _, rfl, sc_F9 (readDec_sat w (by omega)), ?_⟩
  conv => whnf
  repeat (first | (refine go_F9 ?_; conv => whnf) | (refine lk_F9 ?_; conv => whnf))
  cases b1 : rdB u
  · rw [bad5 hR (hnoi (by rw [ho, b1]; rfl))]
    conv => whnf
    repeat (first | (refine go_F9 ?_; conv => whnf) | (refine lk_F9 ?_; conv => whnf))
    first | refine ⟨rfl, _, rfl, ?_⟩ | refine ⟨_, rfl, ?_⟩
    skip
    exact bad 5
  conv => whnf
  repeat (first | (refine go_F9 ?_; conv => whnf) | (refine lk_F9 ?_; conv => whnf))
  cases b2 : rdB v
  · rw [bad5 hR (hnoi (by rw [ho, b1, b2]; rfl))]
    conv => whnf
    repeat (first | (refine go_F9 ?_; conv => whnf) | (refine lk_F9 ?_; conv => whnf))
    first | refine ⟨rfl, _, rfl, ?_⟩ | refine ⟨_, rfl, ?_⟩
    skip
    exact bad 5
  conv => whnf
  repeat (first | (refine go_F9 ?_; conv => whnf) | (refine lk_F9 ?_; conv => whnf))
  cases b3 : rdB w
  · rw [bad5 hR (hnoi (by rw [ho, b1, b2, b3]; rfl))]
    conv => whnf
    repeat (first | (refine go_F9 ?_; conv => whnf) | (refine lk_F9 ?_; conv => whnf))
    first | refine ⟨rfl, _, rfl, ?_⟩ | refine ⟨_, rfl, ?_⟩
    skip
    exact bad 5
  conv => whnf
  repeat (first | (refine go_F9 ?_; conv => whnf) | (refine lk_F9 ?_; conv => whnf))
  cases c1 : decide (rdN u ≥ 8)
  case true =>
    rw [bad5 hR (hnoi (by rw [ho, b1, b2, b3, show decide (rdN u < 8) = false by simp at c1 ⊢; omega]; rfl))]
    conv => whnf
    repeat (first | (refine go_F9 ?_; conv => whnf) | (refine lk_F9 ?_; conv => whnf))
    first | refine ⟨rfl, _, rfl, ?_⟩ | refine ⟨_, rfl, ?_⟩
    skip
    exact bad 5
  conv => whnf
  repeat (first | (refine go_F9 ?_; conv => whnf) | (refine lk_F9 ?_; conv => whnf))
  cases c2 : decide (rdN v ≥ 17)
  case true =>
    rw [bad5 hR (hnoi (by rw [ho, b1, b2, b3, show decide (rdN v < 17) = false by simp at c2 ⊢; omega]; simp))]
    conv => whnf
    repeat (first | (refine go_F9 ?_; conv => whnf) | (refine lk_F9 ?_; conv => whnf))
    first | refine ⟨rfl, _, rfl, ?_⟩ | refine ⟨_, rfl, ?_⟩
    skip
    exact bad 5
  conv => whnf
  repeat (first | (refine go_F9 ?_; conv => whnf) | (refine lk_F9 ?_; conv => whnf))
  cases c3 : decide (rdN w > 1000)
  case true =>
    rw [bad5 hR (hnoi (by rw [ho, b1, b2, b3, show decide (rdN w ≤ 1000) = false by simp at c3 ⊢; omega]; simp))]
    conv => whnf
    repeat (first | (refine go_F9 ?_; conv => whnf) | (refine lk_F9 ?_; conv => whnf))
    first | refine ⟨rfl, _, rfl, ?_⟩ | refine ⟨_, rfl, ?_⟩
    skip
    exact bad 5
  have hok : (rdP y).ok = true := by rw [ho, b1, b2, b3]; simp at c1 c2 c3 ⊢; omega
  obtain ⟨a, c, n, ha, hc, hn, hrd, e1, e2, e3⟩ := hy hok
  rw [hrd, if_pos rfl] at htki
  rw [e1, e2, e3]
  have setA : (dripC (aF (L.take i))).set (0 + (a : Int).toNat * 17 + (c : Int).toNat * 1) (.int .i32 (IntKind.i32.wrap (n : Int))) = dripC (aF (L.take (i + 1))) := by
    rw [w32 (by omega) (by omega), drip_set (i := a) (c := c) (by simp) ha hc, htki]; rfl
  conv => whnf
  repeat (first | (refine go_F9 ?_; conv => whnf) | (refine lk_F9 ?_; conv => whnf))
  refine ⟨i + 1, ?_, ?_, sim_of (rn := [((2, 0, 0), (2, 0, 0)), ((4, 0, 0), (4, 0, 0)), ((6, 0, 0), (6, 0, 0)), ((30, 0, 0), (30, 0, 0))]) rfl ?_ ?_⟩
  · (dsimp only; omega)
  · exact okt_F9
  · exact hold_F9
  · ((repeat' (first | exact trivial | apply And.intro)) <;> ((first | refine ⟨_, _, rfl, rfl, ?_⟩ ); first | rfl | (exact cset setA)))
theorem specReadDrips_sat (r : Roof) (hr : r.In) (l : List UInt8) (hl : l.length ≤ 1048576) : Sat Tryd.prog 33 [roofD r, .v (.string (bsOf l))] (rpV r l) := by
  have hz : (splice (List.replicate 136 (Value.int .i32 0)) 0 (List.replicate 136 (.int .i32 0))) = List.replicate 136 (.int .i32 0) := splice_all (by simp)
  have bad : ∀ x : Int, D.tup [dripD fun _ _ => 0, .v (.int .i64 x)] = one' [D.v (.agg ⟨(((splice (List.replicate 136 (Value.int .i32 0)) 0 (List.replicate 136 (.int .i32 0))).drop 0).take 136)⟩), .v (.int .i64 x)] := fun x => by
    rw [hz, take_drop0 (by simp)]; unfold dripD; rw [dripC_zero]; rfl
  have bad5 : okR r = true → rpB r l = false → rpV r l = .tup [dripD fun _ _ => 0, .v (.int .i64 5)] := fun h1 h2 => by unfold rpV; rw [if_pos h1, if_neg (by simp [h2])]
  have ce : ((bsOf l).toList == (⟨#[]⟩ : ByteArray).toList) = decide (l = []) := by rw [bs_toList, show (⟨#[]⟩ : ByteArray).toList = [] from bs_toList [], Bool.eq_iff_iff]; simp
  refine sat_of_wp hMix tOk Tryd.func33 rfl rfl Tryd.ntmps33 rfl rfl Tryd.results33 (by kernel_rfl) ?_
  conv => whnf
  repeat (first | (refine go_F9 ?_; conv => whnf) | (refine lk_F9 ?_; conv => whnf))
  first | refine ⟨_, _, rfl, sc_F9 (l01Ok_sat r hr), ?_⟩ | refine .inl ⟨_, _, rfl, sc_F9 (l01Ok_sat r hr), ?_⟩
  conv => whnf
  repeat (first | (refine go_F9 ?_; conv => whnf) | (refine lk_F9 ?_; conv => whnf))
  cases hR : okR r
  · conv => whnf
    repeat (first | (refine go_F9 ?_; conv => whnf) | (refine lk_F9 ?_; conv => whnf))
    first | refine ⟨rfl, _, rfl, ?_⟩ | refine ⟨_, rfl, ?_⟩
    skip
    unfold rpV; rw [hR]; exact bad 1
  have hb := okR_bounds hR
  conv => whnf
  repeat (first | (refine go_F9 ?_; conv => whnf) | (refine lk_F9 ?_; conv => whnf))
  rw [ce]
  cases hE : decide (l = [])
  case true =>
    have hl0 : l = [] := by simpa using hE
    rw [show rpV r l = .tup [dripD fun _ _ => 0, .v (.int .i64 0)] by unfold rpV; rw [hl0, if_pos hR, if_pos (rpB_nil r), rpF_nil]]
    conv => whnf
    repeat (first | (refine go_F9 ?_; conv => whnf) | (refine lk_F9 ?_; conv => whnf))
    first | refine ⟨rfl, _, rfl, ?_⟩ | refine ⟨_, rfl, ?_⟩
    skip
    unfold dripD; rw [dripC_zero]
    first | rfl | (simp only [hz, splice_all, take_drop0, List.length_replicate]; rfl)
  have hne : l ≠ [] := by simpa using hE
  conv => whnf
  repeat (first | (refine go_F9 ?_; conv => whnf) | (refine lk_F9 ?_; conv => whnf))
  first | refine ⟨_, _, rfl, sc_F9 (l01Split_sat l hl 32), ?_⟩ | refine .inl ⟨_, _, rfl, sc_F9 (l01Split_sat l hl 32), ?_⟩
  conv => whnf
  repeat (first | (refine go_F9 ?_; conv => whnf) | (refine lk_F9 ?_; conv => whnf))
  have hlenM : (List.map bsOf (spl 32 l)).length = (spl 32 l).length := by rw [List.length_map]
  have hMs : (spl 32 l).length ≤ 1048577 := by rw [spl_len, Lib.count_one]; have := List.count_le_length (a := (32 : UInt8)) (l := l); omega
  have hget : ∀ i, sx ((spl 32 l).map bsOf) i = bsOf ((spl 32 l).getD i []) := fun i => sx_map _ _
  have hyl : ∀ i, ((spl 32 l).getD i []).length ≤ l.length := fun i => spl_at i
  have hno := fun (i : Nat) => rp_badS (r := r) (l := l) hne (i := i)
  have hdone := fun (m : Nat) (f : Tb) (h : SpI (spl 32 l) (spl 32 l).length m f) => h.done r
  have hnext := fun (i j : Nat) => rp_next (r := r) (l := l) hne (i := i) (j := j)
  generalize hws : (spl 32 l).map bsOf = ws at *
  generalize hLL : spl 32 l = L at *
  conv => whnf
  repeat (first | (refine go_F9 ?_; conv => whnf) | (refine lk_F9 ?_; conv => whnf))
  refine loop_rule (α := Nat × Nat × Tb) (fun z => [(1, .v (.string (bsOf l))), (2, .ptr (2, 0, 0) 0), (4, .ptr (4, 0, 0) 0), (6, .ptr (6, 0, 0) 0), (7, .slc true 1 (26, 0, 0) 0 ws.length), (8, .v (.int .i64 ((z.2.1 : Int) - 1))), (9, .v (.int .i64 (z.1 : Nat)))]) (fun z => [((2, 0, 0), roofD r), ((4, 0, 0), .v (.agg ⟨List.replicate 136 (.int .i32 0)⟩)), ((6, 0, 0), dripD z.2.2), ((26, 0, 0), .v (.agg ⟨strsC ws⟩))]) (fun z => SpI L z.1 z.2.1 z.2.2 ∧ (rpB r l = true → ∀ j, z.1 ≤ j → j < L.length → (z.2.1 : Int) - 1 < posW (L.getD j []))) (fun z => L.length - z.1) ((0, 0, fun _ _ => 0)) ?_ (sim_of (rn := [((2, 0, 0), (2, 0, 0)), ((4, 0, 0), (4, 0, 0)), ((6, 0, 0), (6, 0, 0)), ((26, 0, 0), (26, 0, 0))]) rfl ?_ ?_) ?_
  · exact ⟨SpI.zero L, fun _ j _ _ => by have := posW_nn (L.getD j []); show ((0 : Nat) : Int) - 1 < _; omega⟩
  · exact hold_F9
  · ((repeat' (first | exact trivial | apply And.intro)) <;> ((first | refine ⟨_, _, rfl, rfl, ?_⟩ ); first | rfl | (exact cset (by rw [dripC_zero]; first | rfl | exact hz | exact hz.symm))))
  rintro ⟨i, m, f⟩ ⟨hok, hlast⟩
  dsimp only at hok hlast ⊢
  have hi := hok.le
  conv => whnf
  repeat (first | (refine go_F9 ?_; conv => whnf) | (refine lk_F9 ?_; conv => whnf))
  cases h4 : decide ((i : Int) < (ws.length : Int))
  · have hiK : i = L.length := by simp at h4; omega
    subst hiK
    obtain ⟨hd1, hd2⟩ := hdone m f hok
    have hdin := hok.d
    conv => whnf
    repeat (first | (refine go_F9 ?_; conv => whnf) | (refine lk_F9 ?_; conv => whnf))
    first | refine ⟨_, _, rfl, sc_F9 (l03Plain_sat r hr hb f hdin), ?_⟩ | refine .inl ⟨_, _, rfl, sc_F9 (l03Plain_sat r hr hb f hdin), ?_⟩
    conv => whnf
    repeat (first | (refine go_F9 ?_; conv => whnf) | (refine lk_F9 ?_; conv => whnf))
    cases hO : okF r f
    · rw [bad5 hR (by rw [hd2, hO])]
      conv => whnf
      repeat (first | (refine go_F9 ?_; conv => whnf) | (refine lk_F9 ?_; conv => whnf))
      first | refine ⟨rfl, _, rfl, ?_⟩ | refine ⟨_, rfl, ?_⟩
      skip
      exact bad 5
    rw [show rpV r l = .tup [dripD f, .v (.int .i64 0)] by unfold rpV dripD; rw [if_pos hR, hd2, hO, hd1]; rfl]
    conv => whnf
    repeat (first | (refine go_F9 ?_; conv => whnf) | (refine lk_F9 ?_; conv => whnf))
    first | refine ⟨rfl, _, rfl, ?_⟩ | refine ⟨_, rfl, ?_⟩
    skip
    exact congrArg (fun z => D.tup [D.v (.agg ⟨z⟩), .v (.int .i64 0)]) (copied (n := 136) (by simp) (by simp)).symm
  have hiK : i < L.length := by simp at h4; omega
  have hgi : sx ws ((i : Int).toNat * ti9.size) = bsOf (L.getD i []) := by
    show sx ws ((i : Int).toNat * 1) = _
    rw [show (i : Int).toNat * 1 = i by omega]; exact hget i
  have hnoi := hno i hiK
  have hyi := hyl i
  have hstep := fun {a c n : Nat} => hok.step hiK (a := a) (c := c) (n := n)
  have hli := fun hb => hlast hb i (Nat.le_refl _) hiK
  have hnx := hnext i
  generalize L.getD i [] = y at *
  have hsd : sdB y = (decide ((spl 61 y).length = 2) && (decide ((spl 58 ((spl 61 y).getD 0 [])).length = 2) && (nbB ((spl 58 ((spl 61 y).getD 0 [])).getD 0 []) && (nbB ((spl 58 ((spl 61 y).getD 0 [])).getD 1 []) && (nbB ((spl 61 y).getD 1 []) &&
    (decide (nbN ((spl 58 ((spl 61 y).getD 0 [])).getD 0 []) < 8) && (decide (nbN ((spl 58 ((spl 61 y).getD 0 [])).getD 1 []) < 17) && (decide (1 ≤ nbN ((spl 61 y).getD 1 [])) && decide (nbN ((spl 61 y).getD 1 []) ≤ 1000))))))))) := rfl
  have hwd := sdB_wd (x := y)
  have hps : posW y = 17 * nbN ((spl 58 ((spl 61 y).getD 0 [])).getD 0 []) + nbN ((spl 58 ((spl 61 y).getD 0 [])).getD 1 []) := rfl
  have hp0 := spl_at (c := 61) (l := y) 0
  have hp1 := spl_at (c := 61) (l := y) 1
  have ha0 := spl_at (c := 58) (l := (spl 61 y).getD 0 []) 0
  have ha1 := spl_at (c := 58) (l := (spl 61 y).getD 0 []) 1
  have hpm : (spl 61 y).length ≤ 1048577 := by rw [spl_len, Lib.count_one]; have := List.count_le_length (a := (61 : UInt8)) (l := y); omega
  have ham : (spl 58 ((spl 61 y).getD 0 [])).length ≤ 1048577 := by rw [spl_len, Lib.count_one]; have := List.count_le_length (a := (58 : UInt8)) (l := (spl 61 y).getD 0 []); omega
  conv => whnf
  repeat (first | (refine go_F9 ?_; conv => whnf) | (refine lk_F9 ?_; conv => whnf))
  rw [hgi]
  first | refine ⟨_, _, rfl, sc_F9 (l01Split_sat y (by omega) 61), ?_⟩ | refine .inl ⟨_, _, rfl, sc_F9 (l01Split_sat y (by omega) 61), ?_⟩
  conv => whnf
  repeat (first | (refine go_F9 ?_; conv => whnf) | (refine lk_F9 ?_; conv => whnf))
  have hgp : ∀ i, sx ((spl 61 y).map bsOf) i = bsOf ((spl 61 y).getD i []) := fun i => sx_map _ _
  have hlp : ((spl 61 y).map bsOf).length = (spl 61 y).length := by rw [List.length_map]
  have hga : ∀ i, sx ((spl 58 ((spl 61 y).getD 0 [])).map bsOf) i = bsOf ((spl 58 ((spl 61 y).getD 0 [])).getD i []) := fun i => sx_map _ _
  have hla : ((spl 58 ((spl 61 y).getD 0 [])).map bsOf).length = (spl 58 ((spl 61 y).getD 0 [])).length := by rw [List.length_map]
  rw [hlp]
  cases c1 : (((spl 61 y).length : Int) != 2)
  case true =>
    rw [bad5 hR (hnoi (by rw [hsd, show decide ((spl 61 y).length = 2) = false from neT c1]; rfl))]
    conv => whnf
    repeat (first | (refine go_F9 ?_; conv => whnf) | (refine lk_F9 ?_; conv => whnf))
    first | refine ⟨rfl, _, rfl, ?_⟩ | refine ⟨_, rfl, ?_⟩
    skip
    exact bad 5
  have hP2 : (spl 61 y).length = 2 := neF c1
  rw [hP2] at hlp hsd
  generalize hmp : (spl 61 y).map bsOf = pw at *
  conv => whnf
  repeat (first | (refine go_F9 ?_; conv => whnf) | (refine lk_F9 ?_; conv => whnf))
  rw [hgp 0]
  first | refine ⟨_, _, rfl, sc_F9 (l01Split_sat ((spl 61 y).getD 0 []) (by omega) 58), ?_⟩ | refine .inl ⟨_, _, rfl, sc_F9 (l01Split_sat ((spl 61 y).getD 0 []) (by omega) 58), ?_⟩
  conv => whnf
  repeat (first | (refine go_F9 ?_; conv => whnf) | (refine lk_F9 ?_; conv => whnf))
  rw [hla]
  cases c2 : (((spl 58 ((spl 61 y).getD 0 [])).length : Int) != 2)
  case true =>
    rw [bad5 hR (hnoi (by rw [hsd, show decide ((spl 58 ((spl 61 y).getD 0 [])).length = 2) = false from neT c2]; rfl))]
    conv => whnf
    repeat (first | (refine go_F9 ?_; conv => whnf) | (refine lk_F9 ?_; conv => whnf))
    first | refine ⟨rfl, _, rfl, ?_⟩ | refine ⟨_, rfl, ?_⟩
    skip
    exact bad 5
  have hA2 : (spl 58 ((spl 61 y).getD 0 [])).length = 2 := neF c2
  rw [hA2] at hla hsd
  generalize hma : (spl 58 ((spl 61 y).getD 0 [])).map bsOf = aw at *
  conv => whnf
  repeat (first | (refine go_F9 ?_; conv => whnf) | (refine lk_F9 ?_; conv => whnf))
  rw [hga 0]
  generalize (spl 58 ((spl 61 y).getD 0 [])).getD 0 [] = a0 at *
  first | refine ⟨_, _, rfl, sc_F9 (l01Number_sat a0 (by omega)), ?_⟩ | refine .inl ⟨_, _, rfl, sc_F9 (l01Number_sat a0 (by omega)), ?_⟩
  conv => whnf
  repeat (first | (refine go_F9 ?_; conv => whnf) | (refine lk_F9 ?_; conv => whnf))
  first | rw [hga 1] | rw [show sx aw ((1 : Int).toNat * ti9.size) = _ from hga 1]
  generalize (spl 58 ((spl 61 y).getD 0 [])).getD 1 [] = a1 at *
  first | refine ⟨_, _, rfl, sc_F9 (l01Number_sat a1 (by omega)), ?_⟩ | refine .inl ⟨_, _, rfl, sc_F9 (l01Number_sat a1 (by omega)), ?_⟩
  conv => whnf
  repeat (first | (refine go_F9 ?_; conv => whnf) | (refine lk_F9 ?_; conv => whnf))
  first | rw [hgp 1] | rw [show sx pw ((1 : Int).toNat * ti9.size) = _ from hgp 1]
  generalize (spl 61 y).getD 1 [] = p1 at *
  first | refine ⟨_, _, rfl, sc_F9 (l01Number_sat p1 (by omega)), ?_⟩ | refine .inl ⟨_, _, rfl, sc_F9 (l01Number_sat p1 (by omega)), ?_⟩
  conv => whnf
  repeat (first | (refine go_F9 ?_; conv => whnf) | (refine lk_F9 ?_; conv => whnf))
  cases b1 : nbB a0
  · rw [bad5 hR (hnoi (by rw [hsd, b1]; rfl))]
    conv => whnf
    repeat (first | (refine go_F9 ?_; conv => whnf) | (refine lk_F9 ?_; conv => whnf))
    first | refine ⟨rfl, _, rfl, ?_⟩ | refine ⟨_, rfl, ?_⟩
    skip
    exact bad 5
  conv => whnf
  repeat (first | (refine go_F9 ?_; conv => whnf) | (refine lk_F9 ?_; conv => whnf))
  cases b2 : nbB a1
  · rw [bad5 hR (hnoi (by rw [hsd, b1, b2]; rfl))]
    conv => whnf
    repeat (first | (refine go_F9 ?_; conv => whnf) | (refine lk_F9 ?_; conv => whnf))
    first | refine ⟨rfl, _, rfl, ?_⟩ | refine ⟨_, rfl, ?_⟩
    skip
    exact bad 5
  conv => whnf
  repeat (first | (refine go_F9 ?_; conv => whnf) | (refine lk_F9 ?_; conv => whnf))
  cases b3 : nbB p1
  · rw [bad5 hR (hnoi (by rw [hsd, b1, b2, b3]; rfl))]
    conv => whnf
    repeat (first | (refine go_F9 ?_; conv => whnf) | (refine lk_F9 ?_; conv => whnf))
    first | refine ⟨rfl, _, rfl, ?_⟩ | refine ⟨_, rfl, ?_⟩
    skip
    exact bad 5
  conv => whnf
  repeat (first | (refine go_F9 ?_; conv => whnf) | (refine lk_F9 ?_; conv => whnf))
  cases g1 : decide (nbN a0 ≥ 8)
  case true =>
    rw [bad5 hR (hnoi (by rw [hsd, b1, b2, b3, show decide (nbN a0 < 8) = false by simp at g1 ⊢; omega]; rfl))]
    conv => whnf
    repeat (first | (refine go_F9 ?_; conv => whnf) | (refine lk_F9 ?_; conv => whnf))
    first | refine ⟨rfl, _, rfl, ?_⟩ | refine ⟨_, rfl, ?_⟩
    skip
    exact bad 5
  conv => whnf
  repeat (first | (refine go_F9 ?_; conv => whnf) | (refine lk_F9 ?_; conv => whnf))
  cases g2 : decide (nbN a1 ≥ 17)
  case true =>
    rw [bad5 hR (hnoi (by rw [hsd, b1, b2, b3, show decide (nbN a1 < 17) = false by simp at g2 ⊢; omega]; simp))]
    conv => whnf
    repeat (first | (refine go_F9 ?_; conv => whnf) | (refine lk_F9 ?_; conv => whnf))
    first | refine ⟨rfl, _, rfl, ?_⟩ | refine ⟨_, rfl, ?_⟩
    skip
    exact bad 5
  conv => whnf
  repeat (first | (refine go_F9 ?_; conv => whnf) | (refine lk_F9 ?_; conv => whnf))
  cases g3 : decide (nbN p1 < 1)
  case true =>
    rw [bad5 hR (hnoi (by rw [hsd, b1, b2, b3, show decide (1 ≤ nbN p1) = false by simp at g3 ⊢; omega]; simp))]
    conv => whnf
    repeat (first | (refine go_F9 ?_; conv => whnf) | (refine lk_F9 ?_; conv => whnf))
    first | refine ⟨rfl, _, rfl, ?_⟩ | refine ⟨_, rfl, ?_⟩
    skip
    exact bad 5
  conv => whnf
  repeat (first | (refine go_F9 ?_; conv => whnf) | (refine lk_F9 ?_; conv => whnf))
  cases g4 : decide (nbN p1 > 1000)
  case true =>
    rw [bad5 hR (hnoi (by rw [hsd, b1, b2, b3, show decide (nbN p1 ≤ 1000) = false by simp at g4 ⊢; omega]; simp))]
    conv => whnf
    repeat (first | (refine go_F9 ?_; conv => whnf) | (refine lk_F9 ?_; conv => whnf))
    first | refine ⟨rfl, _, rfl, ?_⟩ | refine ⟨_, rfl, ?_⟩
    skip
    exact bad 5
  have hsy : sdB y = true := by rw [hsd, b1, b2, b3]; simp at g1 g2 g3 g4 ⊢; omega
  obtain ⟨a, c, n, ha, hc, hn1, hn2, hyw, e1, e2, e3⟩ := hwd hsy
  rw [e1, e2] at hps
  rw [e1, e2, e3]
  have hm := hok.hm
  have ew : IntKind.i64.wrap (IntKind.i64.wrap (17 * (a : Int)) + (c : Int)) = 17 * (a : Int) + c := by rw [w64 (n := 17 * (a : Int)) (by omega) (by omega), w64 (by omega) (by omega)]
  conv => whnf
  repeat (first | (refine go_F9 ?_; conv => whnf) | (refine lk_F9 ?_; conv => whnf))
  rw [ew]
  cases g5 : decide (17 * (a : Int) + c ≤ (m : Int) - 1)
  case true =>
    have hbad : rpB r l = false := by
      cases hb2 : rpB r l
      · rfl
      · have := hli hb2
        rw [hps] at this
        simp at g5; omega
    rw [bad5 hR hbad]
    conv => whnf
    repeat (first | (refine go_F9 ?_; conv => whnf) | (refine lk_F9 ?_; conv => whnf))
    first | refine ⟨rfl, _, rfl, ?_⟩ | refine ⟨_, rfl, ?_⟩
    skip
    exact bad 5
  have hpm2 : m ≤ 17 * a + c := by simp at g5; omega
  have setA : (dripC f).set (0 + (a : Int).toNat * 17 + (c : Int).toNat * 1) (.int .i32 (IntKind.i32.wrap (n : Int))) = dripC (putM f a c n) := by
    rw [w32 (by omega) (by omega), drip_set (i := a) (c := c) (by simp) ha hc]
  conv => whnf
  repeat (first | (refine go_F9 ?_; conv => whnf) | (refine lk_F9 ?_; conv => whnf))
  refine ⟨(i + 1, 17 * a + c + 1, putM f a c n), ?_, ?_, sim_of (rn := [((2, 0, 0), (2, 0, 0)), ((4, 0, 0), (4, 0, 0)), ((6, 0, 0), (6, 0, 0)), ((26, 0, 0), (26, 0, 0))]) rfl ?_ ?_⟩
  · (dsimp only; omega)
  · exact ⟨hstep ha hc ⟨hn1, hn2⟩ hyw hpm2, fun hb2 j h1 h2 => by have := hnx j hb2 (by omega) h2; rw [hps] at this; show ((17 * a + c + 1 : Nat) : Int) - 1 < _; omega⟩
  · ((repeat' (first | exact trivial | apply And.intro)) <;> (first | rfl | (exact vintS (by rw [ew]; show ((17 * a + c + 1 : Nat) : Int) - 1 = _; omega)) | exact leaf_F9))
  · ((repeat' (first | exact trivial | apply And.intro)) <;> ((first | refine ⟨_, _, rfl, rfl, ?_⟩ ); first | rfl | (exact cset setA)))
theorem fnExactReadDrips_sat (r : Roof) (hr : r.In) (b : ByteArray) : Sat Tryd.prog 9 [roofD r, .v (.string b)] (.v (.bool true)) := by
  rw [bs_of b]
  generalize b.data.toList = l
  refine sat_of_wp hMix tOk Tryd.func9 rfl rfl Tryd.ntmps9 rfl rfl Tryd.results9 (by kernel_rfl) ?_
  conv => whnf
  repeat (first | (refine go_F9 ?_; conv => whnf) | (refine lk_F9 ?_; conv => whnf))
  cases hlong : decide (((bsOf l).size : Int) > 1048576)
  case true =>
    conv => whnf
    repeat (first | (refine go_F9 ?_; conv => whnf) | (refine lk_F9 ?_; conv => whnf))
    first | refine ⟨rfl, _, rfl, ?_⟩ | refine ⟨_, rfl, ?_⟩
    rfl
  have hl : l.length ≤ 1048576 := by simp at hlong; omega
  have s1 := specReadDrips_sat r hr l hl
  have s2 := implReadDrips_sat r hr l hl
  obtain ⟨f, K, hV⟩ : ∃ f K, rpV r l = .tup [dripD f, .v (.int .i64 K)] := by
    unfold rpV
    split
    · split
      · exact ⟨_, _, rfl⟩
      · exact ⟨_, _, rfl⟩
    · exact ⟨_, _, rfl⟩
  rw [hV] at s1 s2
  have hne : (K != K) = false := by simp
  conv => whnf
  repeat (first | (refine go_F9 ?_; conv => whnf) | (refine lk_F9 ?_; conv => whnf))
  first | refine ⟨_, _, rfl, sc_F9 (toRoof_sat r), ?_⟩ | refine .inl ⟨_, _, rfl, sc_F9 (toRoof_sat r), ?_⟩
  conv => whnf
  repeat (first | (refine go_F9 ?_; conv => whnf) | (refine lk_F9 ?_; conv => whnf))
  first | refine ⟨_, _, rfl, sc_F9 (s1), ?_⟩ | refine .inl ⟨_, _, rfl, sc_F9 (s1), ?_⟩
  conv => whnf
  repeat (first | (refine go_F9 ?_; conv => whnf) | (refine lk_F9 ?_; conv => whnf))
  first | refine ⟨_, _, rfl, sc_F9 (toRoof_sat r), ?_⟩ | refine .inl ⟨_, _, rfl, sc_F9 (toRoof_sat r), ?_⟩
  conv => whnf
  repeat (first | (refine go_F9 ?_; conv => whnf) | (refine lk_F9 ?_; conv => whnf))
  first | refine ⟨_, _, rfl, sc_F9 (s2), ?_⟩ | refine .inl ⟨_, _, rfl, sc_F9 (s2), ?_⟩
  conv => whnf
  repeat (first | (refine go_F9 ?_; conv => whnf) | (refine lk_F9 ?_; conv => whnf))
  first | refine ⟨_, _, rfl, sc_F9 (eqDrips_same f), ?_⟩ | refine .inl ⟨_, _, rfl, sc_F9 (eqDrips_same f), ?_⟩
  conv => whnf
  repeat (first | (refine go_F9 ?_; conv => whnf) | (refine lk_F9 ?_; conv => whnf))
  rw [hne]
  conv => whnf
  repeat (first | (refine go_F9 ?_; conv => whnf) | (refine lk_F9 ?_; conv => whnf))
  first | refine ⟨rfl, _, rfl, ?_⟩ | refine ⟨_, rfl, ?_⟩
  rfl
end Go.Proofs.YtdbhfobnmlogeaaDoor
