import Derived.Test.YtcjaihndhplclaaP2
import Derived.Test.YtcjaihndhplclaaW6
import Derived.Test.YtcjaihndhplclaaP1
set_option linter.unusedVariables false
set_option linter.unusedSimpArgs false
/- Plain words: lists of places by sets, how they are ordered, what drips behind repairs, the best of them. -/
set_option linter.unusedVariables false
set_option linter.unusedSimpArgs false
namespace Go.V
/-- The program's words for a bit of a set. -/
def bit64 (s i : Nat) : Bool := IntKind.i64.wrap (BitVec.ofInt IntKind.i64.bits (((s : Nat) : Int).fdiv (2 ^ (min (i : Int).toNat IntKind.i64.bits))) &&& BitVec.ofInt IntKind.i64.bits 1).toNat == 1
theorem bit64_eq {s i : Nat} (hs : s < 4294967296) (hi : i < 64) : bit64 s i = s.testBit i := by
  have e1 : ((s : Nat) : Int).fdiv (2 ^ (min (i : Int).toNat IntKind.i64.bits)) = ((s / 2 ^ i : Nat) : Int) := by
    rw [show min (i : Int).toNat IntKind.i64.bits = i by show min (i : Int).toNat 64 = i; omega]
    rw [Int.fdiv_eq_ediv_of_nonneg _ (Int.pow_nonneg (by omega))]
    push_cast
    rfl
  have hle : s / 2 ^ i ≤ s := Nat.div_le_self _ _
  have e2 : (BitVec.ofInt 64 ((s / 2 ^ i : Nat) : Int) &&& BitVec.ofInt 64 1).toNat = s / 2 ^ i % 2 := by
    rw [BitVec.toNat_and]
    have h1 : (BitVec.ofInt 64 ((s / 2 ^ i : Nat) : Int)).toNat = s / 2 ^ i := by
      rw [BitVec.ofInt_natCast, BitVec.toNat_ofNat]
      exact Nat.mod_eq_of_lt (by omega)
    have h2 : (BitVec.ofInt 64 1).toNat = 1 := by decide
    rw [h1, h2, Nat.and_one_is_mod]
  unfold bit64
  rw [e1]
  show (IntKind.i64.wrap ((BitVec.ofInt 64 ((s / 2 ^ i : Nat) : Int) &&& BitVec.ofInt 64 1).toNat : Int) == 1) = _
  rw [e2, w64 (by omega) (by omega), Nat.testBit, Nat.shiftRight_eq_div_pow, Nat.one_and_eq_mod_two]
  have : s / 2 ^ i % 2 = 0 ∨ s / 2 ^ i % 2 = 1 := by omega
  rcases this with h | h <;> rw [h] <;> rfl
/-- The places of a set. -/
def chP (ws : List Pl) (s : Nat) (k : Nat) : List Pl := ((List.range k).filter fun i => s.testBit i).map (nthP ws)
theorem chP_yes {ws : List Pl} {s k : Nat} (h : s.testBit k = true) : chP ws s (k + 1) = chP ws s k ++ [nthP ws k] := by
  unfold chP; rw [List.range_succ, List.filter_append, List.map_append]; simp [h]
theorem chP_no {ws : List Pl} {s k : Nat} (h : s.testBit k = false) : chP ws s (k + 1) = chP ws s k := by
  unfold chP; rw [List.range_succ, List.filter_append, List.map_append]; simp [h]
theorem chP_len (ws : List Pl) (s : Nat) : ∀ k, (chP ws s k).length ≤ k
  | 0 => Nat.le_refl _
  | k + 1 => by
    have ih := chP_len ws s k
    cases h : s.testBit k
    · rw [chP_no h]; omega
    · rw [chP_yes h, List.length_append]; simp; omega
theorem nthP_all (ws : List Pl) : (List.range ws.length).map (nthP ws) = ws := by
  apply List.ext_getElem
  · simp
  intro i h1 h2
  have := nthP_some h2
  rw [List.getElem?_eq_getElem h2] at this
  simp [Option.some.inj this]
theorem chP_full (ws : List Pl) : chP ws (2 ^ ws.length - 1) ws.length = ws := by
  have : ((List.range ws.length).filter fun i => (2 ^ ws.length - 1).testBit i) = List.range ws.length := by
    rw [List.filter_eq_self]
    intro i hi
    rw [List.mem_range] at hi
    rw [Nat.testBit_two_pow_sub_one]
    simpa using hi
  unfold chP
  rw [this, nthP_all]
theorem chP_sub {ws : List Pl} {s k : Nat} (hk : k ≤ ws.length) : ∀ q ∈ chP ws s k, q ∈ ws := by
  intro q hq
  unfold chP at hq
  obtain ⟨i, hi, rfl⟩ := List.mem_map.1 hq
  have := (List.mem_filter.1 hi).1
  rw [List.mem_range] at this
  exact nthP_mem (by omega)
/-- A roof of which places are mended. -/
def mnR (r : Roof) (l : List Pl) : Nat → Roof
  | 0 => r
  | k + 1 => putR (mnR r l k) (nthP l k).1 (nthP l k).2 0
@[simp] theorem mnR_w (r : Roof) (l : List Pl) : ∀ n, (mnR r l n).w = r.w
  | 0 => rfl
  | n + 1 => mnR_w r l n
@[simp] theorem mnR_h (r : Roof) (l : List Pl) : ∀ n, (mnR r l n).h = r.h
  | 0 => rfl
  | n + 1 => mnR_h r l n
@[simp] theorem mnR_s (r : Roof) (l : List Pl) : ∀ n, (mnR r l n).s = r.s
  | 0 => rfl
  | n + 1 => mnR_s r l n
theorem mnR_in {r : Roof} (hr : r.In) (l : List Pl) : ∀ n, (mnR r l n).In
  | 0 => hr
  | n + 1 => putR_in (mnR_in hr l n) (by omega)
/-- How much drips behind repairs. -/
def afI (r : Roof) (w : Nat → Int) (l : List Pl) : Int := dsI (mnR r l l.length) w
theorem afI_in (r : Roof) {w : Nat → Int} (hw : W1 w) (l : List Pl) : 0 ≤ afI r w l ∧ afI r w l ≤ 136000 := dsI_in _ hw
theorem mnR_t (r : Roof) (l : List Pl) (c k : Nat) : ∀ n, n ≤ l.length → (mnR r l n).t c k = if (c, k) ∈ l.take n then 0 else r.t c k
  | 0, _ => by simp [mnR]
  | n + 1, hn => by
    have ih := mnR_t r l c k n (by omega)
    have e : l.take (n + 1) = l.take n ++ [nthP l n] := by
      rw [List.take_add_one, nthP_some (by omega)]; rfl
    show (putR (mnR r l n) (nthP l n).1 (nthP l n).2 0).t c k = _
    rw [e]
    simp only [putR, putG, ih, List.mem_append, List.mem_singleton]
    by_cases h1 : c = (nthP l n).1 ∧ k = (nthP l n).2
    · rw [if_pos h1, if_pos (.inr (Prod.ext h1.1 h1.2))]
    · have h2 : ¬ (c, k) = nthP l n := fun e => h1 (by rw [← e]; exact ⟨rfl, rfl⟩)
      rw [if_neg h1]
      by_cases h3 : (c, k) ∈ l.take n
      · rw [if_pos h3, if_pos (.inl h3)]
      · rw [if_neg h3, if_neg (by rintro (h | h); · exact h3 h
                                  · exact h2 h)]
/-- If all wrong tiles are mended nothing drips. -/
theorem afI_all {r : Roof} {w : Nat → Int} (hb : Rb r) (hw : W1 w) : afI r w (wrP r) = 0 := by
  have h0 := afI_in r hw (wrP r)
  rcases Int.lt_or_le 0 (afI r w (wrP r)) with h | h
  · exfalso
    have hne := wrP_ne (r := mnR r (wrP r) (wrP r).length) (w := w) hw (by simpa using hb) h
    have : wrP (mnR r (wrP r) (wrP r).length) = [] := by
      rw [wrP_eq, List.filter_eq_nil_iff]
      intro q hq
      rw [mnR_w, mnR_h] at hq
      unfold wrB
      rw [mnR_t _ _ _ _ _ (Nat.le_refl _), List.take_length]
      split
      · simp
      · rename_i hn
        have : q ∉ wrP r := hn
        rw [wrP_eq, List.mem_filter] at this
        have h3 : ¬ wrB r q.1 q.2 = true := fun e => this ⟨hq, e⟩
        unfold wrB at h3
        exact h3
    rw [this] at hne
    simp at hne
  · omega
/-! ### The order of lists -/
def cmP (p q : Pl) : Int := if cmpI p.1 q.1 ≠ 0 then cmpI p.1 q.1 else cmpI p.2 q.2
def cmL : List Pl → List Pl → Int
  | [], [] => 0
  | [], _ :: _ => -1
  | _ :: _, [] => 1
  | a :: x, b :: y => if cmP a b ≠ 0 then cmP a b else cmL x y
theorem cmP_anti (p q : Pl) : cmP q p = - cmP p q := by unfold cmP cmpI; (repeat' split) <;> omega
theorem cmP_zero {p q : Pl} : cmP p q = 0 ↔ p = q := by
  constructor
  · intro h
    have : p.1 = q.1 ∧ p.2 = q.2 := by unfold cmP cmpI at h; revert h; (repeat' split) <;> omega
    exact Prod.ext this.1 this.2
  · rintro rfl; unfold cmP cmpI; simp
theorem cmpI_lt (x y : Int) : cmpI x y < 0 ↔ x < y := by unfold cmpI; (repeat' split) <;> omega
theorem cmpI_ne (x y : Int) : cmpI x y ≠ 0 ↔ x ≠ y := by unfold cmpI; (repeat' split) <;> omega
theorem cmP_lt (p q : Pl) : cmP p q < 0 ↔ p.1 < q.1 ∨ (p.1 = q.1 ∧ p.2 < q.2) := by
  unfold cmP
  split
  · rename_i h; rw [cmpI_ne] at h; rw [cmpI_lt]; omega
  · rename_i h; rw [cmpI_ne] at h; rw [cmpI_lt]; omega
theorem cmP_trans {p q s : Pl} (h : cmP p q < 0) (h' : cmP q s < 0) : cmP p s < 0 := by
  rw [cmP_lt] at *; omega
theorem cmL_anti : ∀ (x y : List Pl), cmL y x = - cmL x y
  | [], [] => by simp [cmL]
  | [], _ :: _ => by simp [cmL]
  | _ :: _, [] => by simp [cmL]
  | a :: x, b :: y => by
    simp only [cmL, cmP_anti a b, cmL_anti x y]
    (repeat' split) <;> omega
theorem cmL_zero : ∀ {x y : List Pl}, cmL x y = 0 → x = y
  | [], [], _ => rfl
  | [], _ :: _, h => by simp [cmL] at h
  | _ :: _, [], h => by simp [cmL] at h
  | a :: x, b :: y, h => by
    simp only [cmL] at h
    split at h
    · rename_i h0; exact absurd h h0
    · rename_i h0
      rw [cmP_zero.1 (Classical.not_not.1 h0), cmL_zero h]
theorem cmL_trans : ∀ {x y z : List Pl}, cmL x y < 0 → cmL y z < 0 → cmL x z < 0
  | [], [], _, h, _ => by simp [cmL] at h
  | [], _ :: _, [], _, h => by simp [cmL] at h
  | [], _ :: _, _ :: _, _, _ => by simp [cmL]
  | _ :: _, [], _, h, _ => by simp [cmL] at h
  | _ :: _, _ :: _, [], _, h => by simp [cmL] at h
  | a :: x, b :: y, c :: z, h, h' => by
    simp only [cmL] at h h' ⊢
    have ih := @cmL_trans x y z
    have t1 := @cmP_trans a b c
    by_cases h1 : cmP a b = 0
    · have e := cmP_zero.1 h1
      subst e
      rw [if_neg (by simp [h1])] at h
      split
      · rename_i h2; rw [if_pos h2] at h'; exact h'
      · rename_i h2; rw [if_neg h2] at h'; exact ih h h'
    · rw [if_pos h1] at h
      by_cases h2 : cmP b c = 0
      · have e := cmP_zero.1 h2
        subst e
        rw [if_pos h1]; exact h
      · rw [if_pos h2] at h'
        have := t1 h h'
        rw [if_pos (by omega)]; exact this
/-- The parts behind places that are equal. -/
theorem drop_nth {l : List Pl} {i : Nat} (h : i < l.length) : l.drop i = nthP l i :: l.drop (i + 1) := by
  have := nthP_some h
  rw [List.drop_eq_getElem_cons h]
  rw [List.getElem?_eq_getElem h] at this
  rw [Option.some.inj this]
theorem cmL_step {x y : List Pl} {i : Nat} (hx : i < x.length) (hy : i < y.length) : cmL (x.drop i) (y.drop i) = if cmP (nthP x i) (nthP y i) ≠ 0 then cmP (nthP x i) (nthP y i) else cmL (x.drop (i + 1)) (y.drop (i + 1)) := by
  rw [drop_nth hx, drop_nth hy]; rfl
theorem cmL_short {x y : List Pl} {i : Nat} (hx : i = x.length) (hy : i ≤ y.length) : cmL (x.drop i) (y.drop i) = if i < y.length then -1 else 0 := by
  rw [List.drop_eq_nil_of_le (by omega)]
  split
  · rename_i h; rw [drop_nth h]; rfl
  · rw [List.drop_eq_nil_of_le (by omega)]; rfl
theorem cmL_long {x y : List Pl} {i : Nat} (hx : i < x.length) (hy : y.length ≤ i) : cmL (x.drop i) (y.drop i) = 1 := by
  rw [drop_nth hx, List.drop_eq_nil_of_le hy]; rfl
/-- Fewer places first. -/
def cmF (x y : List Pl) : Int := if cmpI x.length y.length ≠ 0 then cmpI x.length y.length else cmL x y
theorem cmF_zero {x y : List Pl} (h : cmF x y = 0) : x = y := by
  unfold cmF at h
  split at h
  · rename_i h0; exact absurd h h0
  · exact cmL_zero h
theorem cmF_anti (x y : List Pl) : cmF y x = - cmF x y := by
  unfold cmF
  rw [cmL_anti x y]
  have : cmpI y.length x.length = - cmpI x.length y.length := by unfold cmpI; (repeat' split) <;> omega
  rw [this]
  (repeat' split) <;> omega
theorem cmF_trans {x y z : List Pl} (h : cmF x y < 0) (h' : cmF y z < 0) : cmF x z < 0 := by
  have key : ∀ x y : List Pl, cmF x y < 0 ↔ x.length < y.length ∨ (x.length = y.length ∧ cmL x y < 0) := by
    intro x y
    unfold cmF
    split
    · rename_i h; rw [cmpI_ne] at h; rw [cmpI_lt]; omega
    · rename_i h; rw [cmpI_ne] at h; omega
  have := @cmL_trans x y z
  rw [key] at *
  omega
/-- What comes first of some. -/
def minX (c : List Pl → List Pl → Int) (m : List Pl) (l : List (List Pl)) : List Pl := l.foldl (fun m x => if c x m < 0 then x else m) m
theorem minX_snoc (c : List Pl → List Pl → Int) (m : List Pl) (l : List (List Pl)) (x : List Pl) : minX c m (l ++ [x]) = if c x (minX c m l) < 0 then x else minX c m l := by
  unfold minX; rw [List.foldl_append]; rfl
theorem minX_spec (m : List Pl) : ∀ (l : List (List Pl)), minX cmF m l ∈ m :: l ∧ ∀ x ∈ m :: l, ¬ cmF x (minX cmF m l) < 0 := by
  intro l
  refine snoc_ind (P := fun l => minX cmF m l ∈ m :: l ∧ ∀ x ∈ m :: l, ¬ cmF x (minX cmF m l) < 0) ?_ (fun l x ih => ?_) l
  · refine ⟨by simp [minX], fun x hx => ?_⟩
    simp only [List.mem_singleton] at hx
    subst hx
    show ¬ cmF x x < 0
    have := cmF_anti x x; omega
  · rw [minX_snoc]
    obtain ⟨h1, h2⟩ := ih
    split
    · rename_i hx
      refine ⟨by simp, fun y hy => ?_⟩
      simp only [List.mem_cons, List.mem_append, List.not_mem_nil, or_false] at hy
      have old : y ∈ m :: l → ¬ cmF y x < 0 := fun hm hlt => h2 y hm (cmF_trans hlt hx)
      rcases hy with rfl | hy | rfl
      · exact old (by simp)
      · exact old (by simp [hy])
      · have := cmF_anti y y; omega
    · rename_i hx
      refine ⟨?_, fun y hy => ?_⟩
      · simp only [List.mem_cons] at h1
        simp only [List.mem_cons, List.mem_append, List.not_mem_nil, or_false]
        rcases h1 with h1 | h1
        · exact .inl h1
        · exact .inr (.inl h1)
      · simp only [List.mem_cons, List.mem_append, List.not_mem_nil, or_false] at hy
        rcases hy with rfl | hy | rfl
        · exact h2 _ (by simp)
        · exact h2 _ (by simp [hy])
        · exact hx
theorem minX_uniq {m m' : List Pl} {l l' : List (List Pl)} (h : ∀ x, x ∈ m :: l ↔ x ∈ m' :: l') : minX cmF m l = minX cmF m' l' := by
  obtain ⟨h1, h2⟩ := minX_spec m l
  obtain ⟨h3, h4⟩ := minX_spec m' l'
  have a := h2 _ ((h _).2 h3)
  have b := h4 _ ((h _).1 h1)
  have c := cmF_anti (minX cmF m l) (minX cmF m' l')
  exact cmF_zero (by omega)
/-- The best of those of which something is so, one by one. -/
def selX (c : List Pl → List Pl → Int) (sel : Nat → Bool) (L : Nat → List Pl) (m : List Pl) : Nat → List Pl
  | 0 => m
  | k + 1 => if c (L k) (selX c sel L m k) < 0 ∧ sel k = true then L k else selX c sel L m k
theorem selX_eq (c : List Pl → List Pl → Int) (sel : Nat → Bool) (L : Nat → List Pl) (m : List Pl) : ∀ k, selX c sel L m k = minX c m (((List.range k).filter sel).map L)
  | 0 => rfl
  | k + 1 => by
    rw [List.range_succ, List.filter_append, List.map_append]
    simp only [selX, selX_eq c sel L m k]
    cases h : sel k
    · simp [h]
    · simp only [List.filter_cons, h, List.filter_nil, if_true, List.map_cons, List.map_nil, minX_snoc, and_true]
/-- All lists of wrong tiles. -/
def rpL (r : Roof) (s : Nat) : List Pl := chP (wrP r) s (wrP r).length
def rpN (r : Roof) : Nat := 2 ^ (wrP r).length
def rpA (r : Roof) : List (List Pl) := (List.range (rpN r)).map (rpL r)
def frS (r : Roof) (w : Nat → Int) (b : Int) (l : List Pl) : Bool := decide (afI r w l ≤ b)
def frA (r : Roof) (w : Nat → Int) (b : Int) : List (List Pl) := (rpA r).filter (frS r w b)
/-- The fewest repairs: of all that keep the bound. -/
def frX (r : Roof) (w : Nat → Int) (b : Int) : List Pl := minX cmF ((frA r w b).getD 0 []) ((frA r w b).drop 1)
theorem frA_eq (r : Roof) (w : Nat → Int) (b : Int) : frA r w b = ((List.range (rpN r)).filter fun k => frS r w b (rpL r k)).map (rpL r) := by
  unfold frA rpA
  rw [List.filter_map]
  rfl
theorem rpN_pos (r : Roof) : 0 < rpN r := Nat.two_pow_pos _
theorem rp_all (r : Roof) : rpL r (rpN r - 1) = wrP r := chP_full _
theorem frA_mem {r : Roof} {w : Nat → Int} (hb : Rb r) (hw : W1 w) {b : Int} (hb0 : 0 ≤ b) : wrP r ∈ frA r w b := by
  have hp := rpN_pos r
  unfold frA rpA
  rw [List.mem_filter]
  refine ⟨List.mem_map.2 ⟨rpN r - 1, by rw [List.mem_range]; omega, rp_all r⟩, ?_⟩
  unfold frS
  rw [afI_all hb hw]
  simpa using hb0
theorem getD_cons_drop {α : Type} {l : List α} {d : α} (h : 0 < l.length) : l.getD 0 d :: l.drop 1 = l := by
  cases l with
  | nil => simp at h
  | cons a l => rfl
theorem frX_spec {r : Roof} {w : Nat → Int} (hb : Rb r) (hw : W1 w) {b : Int} (hb0 : 0 ≤ b) : selX cmF (fun k => frS r w b (rpL r k)) (rpL r) (wrP r) (rpN r) = frX r w b := by
  have hm := frA_mem hb hw hb0
  have hp : 0 < (frA r w b).length := List.length_pos_of_mem hm
  rw [selX_eq, ← frA_eq]
  unfold frX
  apply minX_uniq
  intro x
  rw [getD_cons_drop hp, List.mem_cons]
  constructor
  · rintro (rfl | h)
    · exact hm
    · exact h
  · exact .inr
theorem frX_mem {r : Roof} {w : Nat → Int} (hb : Rb r) (hw : W1 w) {b : Int} (hb0 : 0 ≤ b) : frX r w b ∈ frA r w b := by
  have hm := frA_mem hb hw hb0
  have hp : 0 < (frA r w b).length := List.length_pos_of_mem hm
  have := (minX_spec ((frA r w b).getD 0 []) ((frA r w b).drop 1)).1
  rw [getD_cons_drop hp] at this
  exact this
theorem rpA_mem {r : Roof} {l : List Pl} (h : l ∈ rpA r) : l.length ≤ (wrP r).length ∧ ∀ q ∈ l, q ∈ wrP r := by
  obtain ⟨k, _, rfl⟩ := List.mem_map.1 h
  exact ⟨chP_len _ _ _, chP_sub (Nat.le_refl _)⟩
end Go.V
/- Plain words: lists of things of a fixed number of cells; lists of roofs. -/
set_option linter.unusedVariables false
set_option linter.unusedSimpArgs false
namespace Go.V
section
variable {α : Type} {f : α → List Value} {n : Nat}
theorem fm_len (hf : ∀ x, (f x).length = n) : ∀ l : List α, (l.flatMap f).length = l.length * n
  | [] => by simp
  | x :: l => by rw [List.flatMap_cons, List.length_append, hf, fm_len hf l, List.length_cons, Nat.succ_mul]; omega
end
/-- Lists of roofs. -/
def rx (rs : List Roof) (i : Nat) : Roof := rs.getD i zeroR
@[irreducible] def roofsC (rs : List Roof) : List Value := rs.flatMap roofC
theorem roofsC_def (rs : List Roof) : roofsC rs = rs.flatMap roofC := by unfold roofsC; rfl
@[simp] theorem roofsC_len (rs : List Roof) : (roofsC rs).length = rs.length * 67 := by rw [roofsC_def, fm_len roofC_len]
def roofsD (m : Bool) (rs : List Roof) : D := .row m 67 (.v (.agg ⟨roofsC rs⟩)) rs.length
/-- What a pointer into a list of cells leads to, told as cells of its own. -/
theorem Rep.refSub {w : World} {base : Nat} {loc : Loc} {m : Bool} {xs ys : List Value} {off n : Nat} {y : Value} (h : Rep w base loc (.ref m (.v (.agg ⟨xs⟩)) off) y) (hn : (xs.drop off).take n = ys) (hl : ys.length = n) (hpos : 0 < n) :
    Rep w base loc (.ref m (.v (.agg ⟨ys⟩)) 0) y := by
  simp only [Rep] at h ⊢
  obtain ⟨b, o, zs, rfl, hat, hav, hm, hz, hfl⟩ := h
  cases hz
  refine ⟨b, o + off, ys, rfl, ?_, hav, hm, rfl, ?_⟩
  · obtain ⟨k, e, fr, h1, h2, h3⟩ := hat
    have hle : off + n ≤ xs.length := by
      have := congrArg List.length hn
      simp at this
      omega
    refine ⟨k, e, fr, h1, by omega, ?_⟩
    have : ((k.toList.drop o).take xs.length).drop off = xs.drop off := by rw [h3]
    rw [hl, ← hn, ← this, List.drop_take, List.take_take, List.drop_drop, show min n (xs.length - off) = n by omega]
  · simp only [Flat, List.all_eq_true] at hfl ⊢
    intro x hx
    rw [← hn] at hx
    exact hfl x (List.mem_of_mem_drop (List.mem_of_mem_take hx))
theorem Sat.sub {P : Program} {g : FuncId} {m : Bool} {xs ys : List Value} {off n : Nat} {rest : List D} {res : D} (h : Sat P g (.ref m (.v (.agg ⟨ys⟩)) 0 :: rest) res) (hn : (xs.drop off).take n = ys) (hl : ys.length = n) (hpos : 0 < n) :
    Sat P g (.ref m (.v (.agg ⟨xs⟩)) off :: rest) res := by
  refine ⟨h.1, fun w vs hgl hr => h.2 w vs hgl ?_⟩
  simp only [RepL] at hr ⊢
  obtain ⟨y, yss, rfl, h1, h2⟩ := hr
  exact ⟨y, yss, rfl, h1.refSub hn hl hpos, h2⟩
end Go.V
/- Contracts: what the laws do with lists of roofs; roofs that are all as told. -/
set_option linter.unusedVariables false
set_option linter.unusedSimpArgs false
namespace Go.V
def idxX {α : Type} (p : α → Bool) (d : α) (l : List α) : Int := match (List.range l.length).find? (fun i => p (l.getD i d)) with | some i => (i : Int) | none => -1
end Go.V
namespace Go.Proofs.Ytcjaihndhplclaa
open Go.V
end Go.Proofs.Ytcjaihndhplclaa
/- Contracts: roofs that are all as told; whether roofs might be. -/
set_option linter.unusedVariables false
set_option linter.unusedSimpArgs false
namespace Go.V
end Go.V
namespace Go.Proofs.Ytcjaihndhplclaa
open Go.V
end Go.Proofs.Ytcjaihndhplclaa
/- Contracts: numbers for roofs that drip alike, both sides. -/
set_option linter.unusedVariables false
set_option linter.unusedSimpArgs false
namespace Go.V
/-- Whether two tables are one. -/
def eqD (f g : Nat → Nat → Int) : Bool := (List.range 136).all fun k => f (k / 17) (k % 17) == g (k / 17) (k % 17)
abbrev Tb := Nat → Nat → Int
def zT : Tb := fun _ _ => 0
@[irreducible] def drsC (ds : List Tb) : List Value := ds.flatMap dripC
theorem drsC_def (ds : List Tb) : drsC ds = ds.flatMap dripC := by unfold drsC; rfl
@[simp] theorem drsC_len (ds : List Tb) : (drsC ds).length = ds.length * 136 := by rw [drsC_def, fm_len dripC_len]
/-- Where a table is met first. -/
def gIx (ds : List Tb) (f : Tb) : Int := idxX (eqD f) zT ds
def gNo (ds : List Tb) (f : Tb) : Nat := if gIx ds f < 0 then ds.length else (gIx ds f).toNat
/-- The tables that were met, and the numbers of the first i roofs. -/
def snL (F : Nat → Tb) : Nat → List Tb
  | 0 => []
  | i + 1 => if gIx (snL F i) (F i) < 0 then snL F i ++ [F i] else snL F i
def goL (F : Nat → Tb) (n : Nat) : List Int := qL (fun i => (gNo (snL F i) (F i) : Nat)) n
@[simp] theorem goL_len (F : Nat → Tb) (n : Nat) : (goL F n).length = n := qL_len _ n
theorem nth_part {a x y : D} : ∀ (q : Nat) (c : D), nth [a, x] q = some c → ∃ c0, nth [a, y] q = some c0 ∧ (c0 = c ∨ (c0 = y ∧ c = x))
  | 0, c, h => ⟨a, rfl, .inl (by simpa [nth] using h)⟩
  | 1, c, h => ⟨y, rfl, .inr ⟨rfl, by simpa [nth] using h.symm⟩⟩
  | n + 2, c, h => by simp [nth] at h
theorem cond_part {a x y : D} {c : D} {b : Bool} {q : Nat} (hc : (bif b then nth [a, x] q else none) = some c) : ∃ c0, (bif b then nth [a, y] q else none) = some c0 ∧ (c0 = c ∨ (c0 = y ∧ c = x)) := by
  cases b
  · cases hc
  · exact nth_part q c hc
theorem lentM_part {a x y : D} {id : Id} {c : D} (hc : lentM [a, x] id = some c) : ∃ c0, lentM [a, y] id = some c0 ∧ (c0 = c ∨ (c0 = y ∧ c = x)) := by
  unfold lentM at hc ⊢
  exact cond_part hc
/-- A nil slice in a variable, told as a part. -/
theorem Lent.part {w : World} {bs : Nat} {l0 : Loc} {a : D} (h : Lent w bs l0 [a, .v (.agg ⟨[.slice none 0 0]⟩)]) : Lent w bs l0 [a, .agg [.v (.slice none 0 0)]] := by
  have key : ∀ id c, lentM [a, .agg [.v (.slice none 0 0)]] id = some c → ∃ c0, lentM [a, .v (.agg ⟨[.slice none 0 0]⟩)] id = some c0 ∧ ((c0 = c) ∨ (c0 = .v (.agg ⟨[.slice none 0 0]⟩) ∧ c = .agg [.v (.slice none 0 0)])) :=
    fun id c hc => lentM_part hc
  refine ⟨h.dom, fun id c hc => ?_, h.range, fun id id' c c' b n n' h1 h2 h3 h4 => ?_⟩
  · obtain ⟨c0, g1, g2⟩ := key id c hc
    obtain ⟨l, xs, q1, q2, q3⟩ := h.mem id c0 g1
    rcases g2 with rfl | ⟨rfl, rfl⟩
    · exact ⟨l, xs, q1, q2, q3⟩
    · refine ⟨l, xs, q1, ?_, q3⟩
      simp only [Rep] at q2
      obtain ⟨q2, _⟩ := q2
      simp only [Value.agg.injEq] at q2
      cases q2
      simp only [Rep, RepL]
      exact ⟨_, rfl, ⟨_, _, rfl, ⟨rfl, rfl⟩, rfl⟩, rfl⟩
  · obtain ⟨c0, g1, _⟩ := key id c h1
    obtain ⟨c0', g1', _⟩ := key id' c' h2
    exact h.inj id id' _ _ b n n' g1 g1' h3 h4
theorem SatM.part {P : Program} {g : FuncId} {args : List D} {a res : D} {ms' : List (Option D)} {news : List D} (h : SatM P g args [a, .agg [.v (.slice none 0 0)]] res ms' news) : SatM P g args [a, .v (.agg ⟨[.slice none 0 0]⟩)] res ms' news :=
  ⟨h.1, fun w vs l0 bs hbs hbl hgl hl hr => h.2 w vs l0 bs hbs hbl hgl hl.part hr⟩
end Go.V
namespace Go.Proofs.Ytcjaihndhplclaa
open Go.V
end Go.Proofs.Ytcjaihndhplclaa
/- Contracts: numbers for roofs that drip alike, both sides, continued. -/
set_option linter.unusedVariables false
set_option linter.unusedSimpArgs false
namespace Go.V
/-- One part that fills a slice of one element. -/
theorem fill1 {s : St} {a zs : List Value} {n : Nat} {x : Operand} (hx : s.ev x = .v (.agg ⟨a⟩)) (ha : a.length = n) (hz : zs.length = n) :
    fillD (fun i => some (i * n, n)) (rep 1 (List.map D.v zs)) (evParts s #[(0, x)]) = some (List.map D.v a) := by
  have e : rep 1 (List.map D.v zs) = List.map D.v zs := by unfold rep; simp
  have ep : evParts s #[(0, x)] = [(0, .v (.agg ⟨a⟩))] := by unfold evParts; simp [hx]
  have h1 : (a.length == n) = true := by simpa using ha
  have h2 : Nat.ble (0 * n + n) (List.map D.v zs).length = true := by rw [Nat.ble_eq]; simp [hz]
  rw [e, ep]
  simp only [fillD, h1, h2, Bool.and_self, cond_true]
  congr 1
  rw [Nat.zero_mul]
  unfold splice
  simp [ha, ← hz]
end Go.V
namespace Go.Proofs.Ytcjaihndhplclaa
open Go.V
end Go.Proofs.Ytcjaihndhplclaa
/- Contracts: numbers for roofs that drip alike; the cell upon which rain has to fall; both sides, and the laws. -/
set_option linter.unusedVariables false
set_option linter.unusedSimpArgs false
namespace Go.V
end Go.V
namespace Go.Proofs.Ytcjaihndhplclaa
open Go.V
end Go.Proofs.Ytcjaihndhplclaa
/- Plain words: years: visits that are needed, each of them; what has to be replaced; tiles that are too old. -/
set_option linter.unusedVariables false
set_option linter.unusedSimpArgs false
namespace Go.V
end Go.V
/- Contracts: a source of choices out of bytes; valid roofs, ages and rain that are drawn from it. -/
set_option linter.unusedVariables false
set_option linter.unusedSimpArgs false
namespace Go.V
/-- Bytes. -/
@[irreducible] def u8C (xs : List Int) : List Value := xs.map (Value.int .u8)
theorem u8C_def (xs : List Int) : u8C xs = xs.map (Value.int .u8) := by unfold u8C; rfl
@[simp] theorem u8C_len (xs : List Int) : (u8C xs).length = xs.length := by simp [u8C_def]
def Bytes (xs : List Int) : Prop := ∀ i, i < xs.length → 0 ≤ ix xs i ∧ ix xs i ≤ 255
/-- The state of a source: how many were read, a number. -/
abbrev Sc := Nat × Int
def nxB (xs : List Int) (σ : Sc) : Int := if σ.1 < xs.length then ix xs σ.1 else 0
def nxS (xs : List Int) (σ : Sc) : Int := IntKind.u64.wrap (IntKind.u64.wrap (IntKind.u64.wrap (σ.2 * 6364136223846793005) + IntKind.u64.wrap (nxB xs σ)) + 1442695040888963407)
def nxt (xs : List Int) (σ : Sc) : Sc := (σ.1 + 1, nxS xs σ)
end Go.V
namespace Go.Proofs.Ytcjaihndhplclaa
open Go.V
end Go.Proofs.Ytcjaihndhplclaa
/- Contracts: valid roofs, ages and rain that are drawn from bytes. -/
set_option linter.unusedVariables false
set_option linter.unusedSimpArgs false
namespace Go.V
def s0 : Sc := (0, 0)
end Go.V
namespace Go.Proofs.Ytcjaihndhplclaa
open Go.V
end Go.Proofs.Ytcjaihndhplclaa
/- Contracts: what the laws ask of lists, of places and of roofs. -/
set_option linter.unusedVariables false
set_option linter.unusedSimpArgs false
namespace Go.V
theorem eqPl_iff {q q' : Pl} (h : q.1 < 8 ∧ q.2 < 8) (h' : q'.1 < 8 ∧ q'.2 < 8) : decide (q = q') = true ↔ [Value.int .i8 q.1, Value.int .i8 q.2] = [Value.int .i8 q'.1, Value.int .i8 q'.2] := by
  rw [decide_eq_true_iff, Prod.ext_iff]
  simp only [List.cons.injEq, Value.int.injEq, true_and, and_true]
  omega
end Go.V
namespace Go.Proofs.Ytcjaihndhplclaa
open Go.V
theorem eqAgg_place {q q' : Pl} (h : q.1 < 8 ∧ q.2 < 8) (h' : q'.1 < 8 ∧ q'.2 < 8) {xs ys : List Value} (hx : xs = [.int .i8 q.1, .int .i8 q.2]) (hy : ys = [.int .i8 q'.1, .int .i8 q'.2]) : EqAgg Try.prog 61 xs ys (decide (q = q')) := by
  subst hx hy
  have hc : Program.cellsOf Try.prog 61 = 2 := by kernel_rfl
  have hc1 : Program.cellsOf Try.prog 22 = 1 := by kernel_rfl
  have hu1 : Program.underlying Try.prog 22 = some (.int .i8) := Try.underlying22
  have wf : ∀ n : Nat, n < 8 → (Lit.int .i8 (n : Int)).wf = true := fun n hn => by
    simp [Lit.wf, IntKind.min, IntKind.max, IntKind.bits, IntKind.signed]; omega
  have fm : ∀ q : Pl, Value.formed Try.prog 61 (.agg ⟨[.int .i8 q.1, .int .i8 q.2]⟩) = true := by
    intro q
    unfold Value.formed
    rw [Try.underlying61]
    simp [hc]
  have cells : ∀ q : Pl, q.1 < 8 ∧ q.2 < 8 → ∀ x ∈ [Value.int .i8 q.1, Value.int .i8 q.2], IntCell x := by
    intro q hq x hx
    simp only [List.mem_cons, List.not_mem_nil, or_false] at hx
    rcases hx with rfl | rfl
    · exact wf _ hq.1
    · exact wf _ hq.2
  have kl : ∀ q : Pl, q.1 < 8 ∧ q.2 < 8 → Program.keyLits Try.prog 2 61 [.int .i8 q.1, .int .i8 q.2] = some (litsOf [.int .i8 q.1, .int .i8 q.2]) := fun q hq => by
    refine keyLits_struct (d := 1) Try.underlying61 (by rw [hc]; rfl) (by kernel_rfl) (fun f hf => ?_) ?_
    · simp only [List.mem_cons, List.not_mem_nil, or_false] at hf
      rcases hf with rfl | rfl
      · rw [hc1]; exact Go.V.keyLits_int (P := Try.prog) (d := 0) (e := 22) (k := .i8) (z := q.1) hu1 (wf _ hq.1)
      · rw [hc1]; exact Go.V.keyLits_int (P := Try.prog) (d := 0) (e := 22) (k := .i8) (z := q.2) hu1 (wf _ hq.2)
    · simp [hc1]
  exact eqAgg_of (m := 3) (by omega) (by kernel_rfl) (by kernel_rfl) (fm q) (fm q') (kl q h) (kl q' h') (cells q h) (cells q' h') (eqPl_iff h h')
end Go.Proofs.Ytcjaihndhplclaa
/- Contracts: places and lists of places compared, lists by sets, roofs mended, what drips behind repairs; both sides. -/
set_option linter.unusedVariables false
set_option linter.unusedSimpArgs false
namespace Go.V
/- Words for the walks of this text: their default arguments are tried where they are used. -/
theorem go_E33 {P Q : Prop} (k : Q) (h : P := by first | exact Nat.le_of_ble_eq_true rfl | exact rfl | decide | omega | (simp [splice]; done) | (constructor <;> omega) | (simp [splice]; omega)) : P ∧ Q := ⟨h, k⟩
theorem lk_E33 {α : Type} {o : Option α} {K : α → Prop} {x : α} (k : K x) (h : o = some x := by first | exact raiA (by omega) | exact raiA' (by omega) | exact roofN (by omega) (by omega) | exact gridN (by omega) (by omega) | exact intA (by omega) | exact intA' (by omega) | exact placeA (by omega) | exact placeB (by omega) | exact placeA' (by omega) | exact placeB' (by omega)) : optK o K := optK_of h k
theorem sc_E33 {P : Program} {g : FuncId} {args args' : List D} {res : D} (h : Sat P g args res) (e : args' = args := by repeat (first | rfl | exact vfull (by first | (simp [splice]; done) | (simp [splice]; omega)) | exact rfull (by first | (simp [splice]; done) | (simp [splice]; omega)) | exact vplace (by simp; done) (by omega) | exact vrow (by simp; done) (by omega) | exact vtiles (by simp) | exact vsplice (by simp) (by simp) | refine ceq ?_ ?_ | refine Eq.trans (vsplice (by first | (simp; done) | (simp; omega)) (by first | (simp; done) | (simp; omega))) ?_)) : Sat P g args' res := Sat.of_eq h e
theorem hold_E33 {P : Prop} (h : P := by (repeat' (first | exact trivial | apply And.intro)) <;> (first | rfl | exact succ8 (by omega) | exact succ64 (by omega) | exact CapOk.fn (by assumption) _ _ | exact vintS (by omega) | exact vintS (by rw [w64 (by omega) (by omega)]; omega) | exact vintS (by rw [w8 (by omega) (by omega)]; omega) | exact vslcS (by omega) | exact vslcS (by simp))) : P := h
theorem okt_E33 {P : Prop} (h : P := by first | omega | (dsimp only; omega) | ((repeat' apply And.intro) <;> omega) | (dsimp only; (repeat' apply And.intro) <;> omega) | trivial) : P := h
end Go.V
namespace Go.V
def orI (x y : Int) : Int := if x ≠ 0 then x else y
end Go.V
namespace Go.Proofs.Ytcjaihndhplclaa
open Go.V
theorem isNaNI_sat (x : Int) : Sat Try.prog 112 [.v (.int .i64 x)] (.v (.bool false)) := by
  refine sat_of_wp hMix tOk Try.func112 rfl rfl Try.ntmps112 rfl rfl Try.results112 (by kernel_rfl) ?_
  conv => whnf
  repeat (first | (refine go_E33 ?_; conv => whnf) | (refine lk_E33 ?_; conv => whnf))
  first | refine ⟨rfl, _, rfl, ?_⟩ | refine ⟨_, rfl, ?_⟩
  skip
  show D.v (.bool false) = D.v (.bool (x != x))
  rw [show (x != x) = false by simp]
theorem isNaN8_sat (x : Int) : Sat Try.prog 178 [.v (.int .i8 x)] (.v (.bool false)) := by
  refine sat_of_wp hMix tOk Try.func178 rfl rfl Try.ntmps178 rfl rfl Try.results178 (by kernel_rfl) ?_
  conv => whnf
  repeat (first | (refine go_E33 ?_; conv => whnf) | (refine lk_E33 ?_; conv => whnf))
  first | refine ⟨rfl, _, rfl, ?_⟩ | refine ⟨_, rfl, ?_⟩
  skip
  show D.v (.bool false) = D.v (.bool (x != x))
  rw [show (x != x) = false by simp]
theorem compareI_sat (x y : Int) : Sat Try.prog 60 [.v (.int .i64 x), .v (.int .i64 y)] (.v (.int .i64 (cmpI x y))) := by
  refine sat_of_wp hMix tOk Try.func60 rfl rfl Try.ntmps60 rfl rfl Try.results60 (by kernel_rfl) ?_
  conv => whnf
  repeat (first | (refine go_E33 ?_; conv => whnf) | (refine lk_E33 ?_; conv => whnf))
  first | refine ⟨_, _, rfl, sc_E33 (isNaNI_sat x), ?_⟩ | refine .inl ⟨_, _, rfl, sc_E33 (isNaNI_sat x), ?_⟩
  conv => whnf
  repeat (first | (refine go_E33 ?_; conv => whnf) | (refine lk_E33 ?_; conv => whnf))
  first | refine ⟨_, _, rfl, sc_E33 (isNaNI_sat y), ?_⟩ | refine .inl ⟨_, _, rfl, sc_E33 (isNaNI_sat y), ?_⟩
  conv => whnf
  repeat (first | (refine go_E33 ?_; conv => whnf) | (refine lk_E33 ?_; conv => whnf))
  cases h : decide (x < y)
  · conv => whnf
    have h' : ¬ x < y := by simpa using h
    cases h2 : decide (x > y)
    · refine ⟨rfl, _, rfl, ?_⟩
      have h2' : ¬ x > y := by simpa using h2
      simp only [cmpI, if_neg h', if_neg h2']; rfl
    · refine ⟨rfl, _, rfl, ?_⟩
      have h2' : x > y := by simpa using h2
      simp only [cmpI, if_neg h', if_pos h2']; rfl
  · refine ⟨rfl, _, rfl, ?_⟩
    have h' : x < y := by simpa using h
    simp only [cmpI, if_pos h']; rfl
theorem compare8_sat (x y : Int) : Sat Try.prog 153 [.v (.int .i8 x), .v (.int .i8 y)] (.v (.int .i64 (cmpI x y))) := by
  refine sat_of_wp hMix tOk Try.func153 rfl rfl Try.ntmps153 rfl rfl Try.results153 (by kernel_rfl) ?_
  conv => whnf
  repeat (first | (refine go_E33 ?_; conv => whnf) | (refine lk_E33 ?_; conv => whnf))
  first | refine ⟨_, _, rfl, sc_E33 (isNaN8_sat x), ?_⟩ | refine .inl ⟨_, _, rfl, sc_E33 (isNaN8_sat x), ?_⟩
  conv => whnf
  repeat (first | (refine go_E33 ?_; conv => whnf) | (refine lk_E33 ?_; conv => whnf))
  first | refine ⟨_, _, rfl, sc_E33 (isNaN8_sat y), ?_⟩ | refine .inl ⟨_, _, rfl, sc_E33 (isNaN8_sat y), ?_⟩
  conv => whnf
  repeat (first | (refine go_E33 ?_; conv => whnf) | (refine lk_E33 ?_; conv => whnf))
  cases h : decide (x < y)
  · conv => whnf
    have h' : ¬ x < y := by simpa using h
    cases h2 : decide (x > y)
    · refine ⟨rfl, _, rfl, ?_⟩
      have h2' : ¬ x > y := by simpa using h2
      simp only [cmpI, if_neg h', if_neg h2']; rfl
    · refine ⟨rfl, _, rfl, ?_⟩
      have h2' : x > y := by simpa using h2
      simp only [cmpI, if_neg h', if_pos h2']; rfl
  · refine ⟨rfl, _, rfl, ?_⟩
    have h' : x < y := by simpa using h
    simp only [cmpI, if_pos h']; rfl
theorem or2_sat (x y : Int) (m : Bool) : Sat Try.prog 59 [.row m 1 (.v (.agg ⟨[.int .i64 x, .int .i64 y]⟩)) 2] (.v (.int .i64 (orI x y))) := by
  refine sat_of_wp hMix tOk Try.func59 rfl rfl Try.ntmps59 rfl rfl Try.results59 (by kernel_rfl) ?_
  conv => whnf
  repeat (first | (refine go_E33 ?_; conv => whnf) | (refine lk_E33 ?_; conv => whnf))
  refine loop_rule (α := Nat) (fun i => [(3, .v (.int .i64 0)), (6, .row m 1 (.v (.agg ⟨[.int .i64 x, .int .i64 y]⟩)) 2), (7, .v (.int .i64 2)), (8, .v (.int .i64 i))]) (fun i => []) (fun i => i ≤ 2 ∧ (0 < i → x = 0) ∧ (1 < i → y = 0)) (fun i => 2 - i) (0) ?_ (sim_of (rn := []) rfl ?_ ?_) ?_
  · exact okt_E33
  · exact hold_E33
  · ((repeat' (first | exact trivial | apply And.intro)) <;> ((first | refine ⟨_, _, rfl, rfl, ?_⟩ ); rfl))
  rintro i ⟨hi, hx, hy⟩
  match i, hi, hx, hy with
  | 0, _, _, _ =>
    conv => whnf
    repeat (first | (refine go_E33 ?_; conv => whnf) | (refine lk_E33 ?_; conv => whnf))
    cases h : (x != 0)
    · have hx0 : x = 0 := by simpa using h
      conv => whnf
      repeat (first | (refine go_E33 ?_; conv => whnf) | (refine lk_E33 ?_; conv => whnf))
      refine ⟨1, ?_, ?_, sim_of (rn := []) rfl ?_ ?_⟩
      · (dsimp only; omega)
      · exact ⟨by omega, fun _ => hx0, fun h => by omega⟩
      · exact hold_E33
      · ((repeat' (first | exact trivial | apply And.intro)) <;> ((first | refine ⟨_, _, rfl, rfl, ?_⟩ ); rfl))
    · have hx0 : x ≠ 0 := by simpa using h
      conv => whnf
      repeat (first | (refine go_E33 ?_; conv => whnf) | (refine lk_E33 ?_; conv => whnf))
      first | refine ⟨rfl, _, rfl, ?_⟩ | refine ⟨_, rfl, ?_⟩
      skip
      unfold orI; rw [if_pos hx0]; rfl
  | 1, _, hx, _ =>
    have hx0 := hx (by omega)
    conv => whnf
    repeat (first | (refine go_E33 ?_; conv => whnf) | (refine lk_E33 ?_; conv => whnf))
    cases h : (y != 0)
    · have hy0 : y = 0 := by simpa using h
      conv => whnf
      repeat (first | (refine go_E33 ?_; conv => whnf) | (refine lk_E33 ?_; conv => whnf))
      refine ⟨2, ?_, ?_, sim_of (rn := []) rfl ?_ ?_⟩
      · (dsimp only; omega)
      · exact ⟨by omega, fun _ => hx0, fun _ => hy0⟩
      · exact hold_E33
      · ((repeat' (first | exact trivial | apply And.intro)) <;> ((first | refine ⟨_, _, rfl, rfl, ?_⟩ ); rfl))
    · conv => whnf
      repeat (first | (refine go_E33 ?_; conv => whnf) | (refine lk_E33 ?_; conv => whnf))
      first | refine ⟨rfl, _, rfl, ?_⟩ | refine ⟨_, rfl, ?_⟩
      skip
      unfold orI; rw [if_neg (by simp [hx0])]; rfl
  | 2, _, hx, hy =>
    have hx0 := hx (by omega)
    have hy0 := hy (by omega)
    conv => whnf
    repeat (first | (refine go_E33 ?_; conv => whnf) | (refine lk_E33 ?_; conv => whnf))
    first | refine ⟨rfl, _, rfl, ?_⟩ | refine ⟨_, rfl, ?_⟩
    skip
    unfold orI; rw [if_neg (by simp [hx0]), hy0]; rfl
theorem comparePlaces_sat (p q : Pl) : Sat Try.prog 114 [plD p, plD q] (.v (.int .i64 (cmP p q))) := by
  refine sat_of_wp hMix tOk Try.func114 rfl rfl Try.ntmps114 rfl rfl Try.results114 (by kernel_rfl) ?_
  conv => whnf
  repeat (first | (refine go_E33 ?_; conv => whnf) | (refine lk_E33 ?_; conv => whnf))
  first | refine ⟨_, _, rfl, sc_E33 (compare8_sat _ _), ?_⟩ | refine .inl ⟨_, _, rfl, sc_E33 (compare8_sat _ _), ?_⟩
  conv => whnf
  repeat (first | (refine go_E33 ?_; conv => whnf) | (refine lk_E33 ?_; conv => whnf))
  first | refine ⟨_, _, rfl, sc_E33 (compare8_sat _ _), ?_⟩ | refine .inl ⟨_, _, rfl, sc_E33 (compare8_sat _ _), ?_⟩
  conv => whnf
  repeat (first | (refine go_E33 ?_; conv => whnf) | (refine lk_E33 ?_; conv => whnf))
  first | refine ⟨_, _, rfl, sc_E33 (or2_sat _ _ false), ?_⟩ | refine .inl ⟨_, _, rfl, sc_E33 (or2_sat _ _ false), ?_⟩
  conv => whnf
  repeat (first | (refine go_E33 ?_; conv => whnf) | (refine lk_E33 ?_; conv => whnf))
  first | refine ⟨rfl, _, rfl, ?_⟩ | refine ⟨_, rfl, ?_⟩
  rfl
set_option maxRecDepth 8000 in
theorem compareFunc_sat (x y : List Pl) (hx : x.length ≤ 1048576) (hy : y.length ≤ 1048576) (m m' : Bool) :
    Sat Try.prog 113 [placesD m x, placesD m' y, .fn (.func 114) [] []] (.v (.int .i64 (cmL x y))) := by
  refine sat_of_wp hMix tOk Try.func113 rfl rfl Try.ntmps113 rfl rfl Try.results113 (by kernel_rfl) ?_
  conv => whnf
  repeat (first | (refine go_E33 ?_; conv => whnf) | (refine lk_E33 ?_; conv => whnf))
  refine loop_rule (α := Nat) (fun i => [(0, placesD m x), (1, placesD m' y), (2, .fn (.func 114) [] []), (11, placesD m x), (12, .v (.int .i64 x.length)), (13, .v (.int .i64 i))]) (fun i => []) (fun i => i ≤ x.length ∧ i ≤ y.length ∧ cmL (x.drop i) (y.drop i) = cmL x y) (fun i => x.length - i) (0) ?_ (sim_of (rn := []) rfl ?_ ?_) ?_
  · exact ⟨by omega, by omega, rfl⟩
  · exact hold_E33
  · ((repeat' (first | exact trivial | apply And.intro)) <;> ((first | refine ⟨_, _, rfl, rfl, ?_⟩ ); rfl))
  rintro i ⟨hi, hi2, he⟩
  conv => whnf
  repeat (first | (refine go_E33 ?_; conv => whnf) | (refine lk_E33 ?_; conv => whnf))
  cases h : decide ((i : Int) < (x.length : Int))
  · have hin : i = x.length := by simp at h; omega
    rw [cmL_short hin hi2] at he
    conv => whnf
    repeat (first | (refine go_E33 ?_; conv => whnf) | (refine lk_E33 ?_; conv => whnf))
    cases h2 : decide ((x.length : Int) < (y.length : Int))
    · rw [if_neg (by simp at h2; omega)] at he
      conv => whnf
      repeat (first | (refine go_E33 ?_; conv => whnf) | (refine lk_E33 ?_; conv => whnf))
      first | refine ⟨rfl, _, rfl, ?_⟩ | refine ⟨_, rfl, ?_⟩
      skip
      rw [← he]; rfl
    · rw [if_pos (by simp at h2; omega)] at he
      conv => whnf
      repeat (first | (refine go_E33 ?_; conv => whnf) | (refine lk_E33 ?_; conv => whnf))
      first | refine ⟨rfl, _, rfl, ?_⟩ | refine ⟨_, rfl, ?_⟩
      skip
      rw [← he]; rfl
  have hin : i < x.length := by simpa using h
  conv => whnf
  repeat (first | (refine go_E33 ?_; conv => whnf) | (refine lk_E33 ?_; conv => whnf))
  cases h2 : decide ((i : Int) ≥ (y.length : Int))
  case true =>
    rw [cmL_long hin (by simp at h2; omega)] at he
    conv => whnf
    repeat (first | (refine go_E33 ?_; conv => whnf) | (refine lk_E33 ?_; conv => whnf))
    first | refine ⟨rfl, _, rfl, ?_⟩ | refine ⟨_, rfl, ?_⟩
    skip
    rw [← he]; rfl
  have hiy : i < y.length := by simp at h2; omega
  rw [cmL_step hin hiy] at he
  conv => whnf
  repeat (first | (refine go_E33 ?_; conv => whnf) | (refine lk_E33 ?_; conv => whnf))
  first | refine ⟨_, _, rfl, sc_E33 (comparePlaces_sat (nthP x i) (nthP y i)), ?_⟩ | refine .inl ⟨_, _, rfl, sc_E33 (comparePlaces_sat (nthP x i) (nthP y i)), ?_⟩
  conv => whnf
  repeat (first | (refine go_E33 ?_; conv => whnf) | (refine lk_E33 ?_; conv => whnf))
  cases h3 : (cmP (nthP x i) (nthP y i) != 0)
  · have h3' : cmP (nthP x i) (nthP y i) = 0 := by simpa using h3
    rw [if_neg (by simp [h3'])] at he
    conv => whnf
    repeat (first | (refine go_E33 ?_; conv => whnf) | (refine lk_E33 ?_; conv => whnf))
    refine ⟨i + 1, ?_, ?_, sim_of (rn := []) rfl ?_ ?_⟩
    · (dsimp only; omega)
    · exact ⟨by omega, by omega, he⟩
    · exact hold_E33
    · ((repeat' (first | exact trivial | apply And.intro)) <;> ((first | refine ⟨_, _, rfl, rfl, ?_⟩ ); rfl))
  · have h3' : cmP (nthP x i) (nthP y i) ≠ 0 := by simpa using h3
    rw [if_pos h3'] at he
    conv => whnf
    repeat (first | (refine go_E33 ?_; conv => whnf) | (refine lk_E33 ?_; conv => whnf))
    first | refine ⟨rfl, _, rfl, ?_⟩ | refine ⟨_, rfl, ?_⟩
    skip
    rw [← he]; rfl
theorem compareLists_sat (x y : List Pl) (hx : x.length ≤ 1048576) (hy : y.length ≤ 1048576) (m m' : Bool) : Sat Try.prog 61 [placesD m x, placesD m' y] (.v (.int .i64 (cmL x y))) := by
  refine sat_of_wp hMix tOk Try.func61 rfl rfl Try.ntmps61 rfl rfl Try.results61 (by kernel_rfl) ?_
  conv => whnf
  repeat (first | (refine go_E33 ?_; conv => whnf) | (refine lk_E33 ?_; conv => whnf))
  first | refine ⟨_, _, rfl, sc_E33 (compareFunc_sat x y hx hy false false), ?_⟩ | refine .inl ⟨_, _, rfl, sc_E33 (compareFunc_sat x y hx hy false false), ?_⟩
  conv => whnf
  repeat (first | (refine go_E33 ?_; conv => whnf) | (refine lk_E33 ?_; conv => whnf))
  first | refine ⟨rfl, _, rfl, ?_⟩ | refine ⟨_, rfl, ?_⟩
  rfl
set_option maxRecDepth 8000 in
theorem l03Less_sat (x y : List Pl) (hx : x.length ≤ 1048576) (hy : y.length ≤ 1048576) (px : AllIn x) (py : AllIn y) (m m' : Bool) : Sat Try.prog 52 [placesD m x, placesD m' y] (.v (.bool (decide (cmL x y < 0)))) := by
  refine sat_of_wp hMix tOk Try.func52 rfl rfl Try.ntmps52 rfl rfl Try.results52 (by kernel_rfl) ?_
  conv => whnf
  repeat (first | (refine go_E33 ?_; conv => whnf) | (refine lk_E33 ?_; conv => whnf))
  refine loop_rule (α := Nat) (fun i => [(0, placesD m x), (1, placesD m' y), (5, .v (.int .i64 i))]) (fun i => []) (fun i => i ≤ x.length ∧ i ≤ y.length ∧ cmL (x.drop i) (y.drop i) = cmL x y) (fun i => x.length - i) (0) ?_ (sim_of (rn := []) rfl ?_ ?_) ?_
  · exact ⟨by omega, by omega, rfl⟩
  · exact hold_E33
  · ((repeat' (first | exact trivial | apply And.intro)) <;> ((first | refine ⟨_, _, rfl, rfl, ?_⟩ ); rfl))
  rintro i ⟨hi, hi2, he⟩
  conv => whnf
  repeat (first | (refine go_E33 ?_; conv => whnf) | (refine lk_E33 ?_; conv => whnf))
  cases h : decide ((i : Int) < (x.length : Int))
  · have hin : i = x.length := by simp at h; omega
    rw [cmL_short hin hi2] at he
    conv => whnf
    repeat (first | (refine go_E33 ?_; conv => whnf) | (refine lk_E33 ?_; conv => whnf))
    first | refine ⟨rfl, _, rfl, ?_⟩ | refine ⟨_, rfl, ?_⟩
    skip
    rw [← he, hin]
    cases h2 : decide ((x.length : Int) < (y.length : Int))
    · rw [if_neg (by simp at h2; omega)]; rfl
    · rw [if_pos (by simp at h2; omega)]; rfl
  have hin : i < x.length := by simpa using h
  conv => whnf
  repeat (first | (refine go_E33 ?_; conv => whnf) | (refine lk_E33 ?_; conv => whnf))
  cases h2 : decide ((i : Int) < (y.length : Int))
  · rw [cmL_long hin (by simp at h2; omega)] at he
    conv => whnf
    repeat (first | (refine go_E33 ?_; conv => whnf) | (refine lk_E33 ?_; conv => whnf))
    first | refine ⟨rfl, _, rfl, ?_⟩ | refine ⟨_, rfl, ?_⟩
    skip
    rw [← he]
    have h2' : ¬ (i : Int) < (y.length : Int) := by simpa using h2
    rw [show decide ((x.length : Int) < (y.length : Int)) = false by simp; omega]
    rfl
  have hiy : i < y.length := by simpa using h2
  rw [cmL_step hin hiy] at he
  have qx := px i hin
  have qy := py i hiy
  conv => whnf
  repeat (first | (refine go_E33 ?_; conv => whnf) | (refine lk_E33 ?_; conv => whnf))
  refine ⟨_, eqAgg_place qx qy (place_load (by simp) hin) (place_load (by simp) hiy), ?_⟩
  cases h3 : decide (nthP x i = nthP y i)
  case true =>
    have h3' : cmP (nthP x i) (nthP y i) = 0 := cmP_zero.2 (by simpa using h3)
    rw [if_neg (by simp [h3'])] at he
    conv => whnf
    repeat (first | (refine go_E33 ?_; conv => whnf) | (refine lk_E33 ?_; conv => whnf))
    refine ⟨i + 1, ?_, ?_, sim_of (rn := []) rfl ?_ ?_⟩
    · (dsimp only; omega)
    · exact ⟨by omega, by omega, he⟩
    · exact hold_E33
    · ((repeat' (first | exact trivial | apply And.intro)) <;> ((first | refine ⟨_, _, rfl, rfl, ?_⟩ ); rfl))
  have h3' : cmP (nthP x i) (nthP y i) ≠ 0 := fun e => by simp [cmP_zero.1 e] at h3
  rw [if_pos h3'] at he
  have hl := cmP_lt (nthP x i) (nthP y i)
  rw [← he]
  conv => whnf
  repeat (first | (refine go_E33 ?_; conv => whnf) | (refine lk_E33 ?_; conv => whnf))
  cases h4 : decide (((nthP x i).1 : Int) < ((nthP y i).1 : Int))
  · have h4' : ¬ ((nthP x i).1 : Int) < ((nthP y i).1 : Int) := by simpa using h4
    conv => whnf
    repeat (first | (refine go_E33 ?_; conv => whnf) | (refine lk_E33 ?_; conv => whnf))
    cases h5 : (((nthP x i).1 : Int) == ((nthP y i).1 : Int))
    · have h5' : ¬ ((nthP x i).1 : Int) = ((nthP y i).1 : Int) := by simpa using h5
      conv => whnf
      repeat (first | (refine go_E33 ?_; conv => whnf) | (refine lk_E33 ?_; conv => whnf))
      first | refine ⟨rfl, _, rfl, ?_⟩ | refine ⟨_, rfl, ?_⟩
      skip
      rw [show decide (cmP (nthP x i) (nthP y i) < 0) = false by simp only [decide_eq_false_iff_not]; omega]; rfl
    · have h5' : ((nthP x i).1 : Int) = ((nthP y i).1 : Int) := by simpa using h5
      conv => whnf
      repeat (first | (refine go_E33 ?_; conv => whnf) | (refine lk_E33 ?_; conv => whnf))
      first | refine ⟨rfl, _, rfl, ?_⟩ | refine ⟨_, rfl, ?_⟩
      skip
      rw [show decide (cmP (nthP x i) (nthP y i) < 0) = decide (((nthP x i).2 : Int) < ((nthP y i).2 : Int)) by rw [decide_eq_decide]; omega]; rfl
  · have h4' : ((nthP x i).1 : Int) < ((nthP y i).1 : Int) := by simpa using h4
    conv => whnf
    repeat (first | (refine go_E33 ?_; conv => whnf) | (refine lk_E33 ?_; conv => whnf))
    first | refine ⟨rfl, _, rfl, ?_⟩ | refine ⟨_, rfl, ?_⟩
    skip
    rw [show decide (cmP (nthP x i) (nthP y i) < 0) = true by simp only [decide_eq_true_eq]; omega]; rfl
end Go.Proofs.Ytcjaihndhplclaa
/- Contracts: roofs mended, what drips behind repairs, lists by sets; both sides. -/
set_option linter.unusedVariables false
set_option linter.unusedSimpArgs false
namespace Go.V
/- Words for the walks of this text: their default arguments are tried where they are used. -/
theorem go_E34 {P Q : Prop} (k : Q) (h : P := by first | exact Nat.le_of_ble_eq_true rfl | exact rfl | decide | omega | (simp [splice]; done) | (constructor <;> omega) | (simp [splice]; omega)) : P ∧ Q := ⟨h, k⟩
theorem lk_E34 {α : Type} {o : Option α} {K : α → Prop} {x : α} (k : K x) (h : o = some x := by first | exact raiA (by omega) | exact raiA' (by omega) | exact roofN (by omega) (by omega) | exact gridN (by omega) (by omega) | exact intA (by omega) | exact intA' (by omega) | exact placeA (by omega) | exact placeB (by omega) | exact placeA' (by omega) | exact placeB' (by omega)) : optK o K := optK_of h k
theorem sc_E34 {P : Program} {g : FuncId} {args args' : List D} {res : D} (h : Sat P g args res) (e : args' = args := by repeat (first | rfl | exact vfull (by first | (simp [splice]; done) | (simp [splice]; omega)) | exact rfull (by first | (simp [splice]; done) | (simp [splice]; omega)) | exact vplace (by simp; done) (by omega) | exact vrow (by simp; done) (by omega) | exact vtiles (by simp) | exact vsplice (by simp) (by simp) | refine ceq ?_ ?_ | refine Eq.trans (vsplice (by first | (simp; done) | (simp; omega)) (by first | (simp; done) | (simp; omega))) ?_)) : Sat P g args' res := Sat.of_eq h e
theorem hold_E34 {P : Prop} (h : P := by (repeat' (first | exact trivial | apply And.intro)) <;> (first | rfl | exact succ8 (by omega) | exact succ64 (by omega) | exact CapOk.fn (by assumption) _ _ | exact vintS (by omega) | exact vintS (by rw [w64 (by omega) (by omega)]; omega) | exact vintS (by rw [w8 (by omega) (by omega)]; omega) | exact vslcS (by omega) | exact vslcS (by simp))) : P := h
theorem okt_E34 {P : Prop} (h : P := by first | omega | (dsimp only; omega) | ((repeat' apply And.intro) <;> omega) | (dsimp only; (repeat' apply And.intro) <;> omega) | trivial) : P := h
end Go.V
namespace Go.V
/-- A row in a variable, as a part. -/
def refP (m : Bool) (l : List Pl) : D := .ref m (.agg [placesD m l]) 0
theorem vrefP {l : List Pl} {n k : Nat} (h : (placesC l).length ≤ n ∧ k = l.length) : D.ref false (.agg [.row false 2 (.v (.agg ⟨((placesC l).drop 0).take n⟩)) k]) 0 = refP false l := by
  rw [List.drop_zero, take_full h.1, h.2]; rfl
theorem croof {zs : List Value} {r : Roof} (hz : zs.length = 67) : some (D.v (.agg ⟨splice zs 0 (List.take 67 (List.drop 0 (roofC r)))⟩)) = some (roofD r) := by
  rw [take_drop0 (xs := roofC r) (by simp), splice_all (by rw [hz]; simp)]; rfl
end Go.V
namespace Go.Proofs.Ytcjaihndhplclaa
open Go.V
theorem mended_sat (r : Roof) (hr : r.In) (l : List Pl) (hl : l.length ≤ 1048576) (hin : AllIn l) (m : Bool) : Sat Try.prog 102 [roofD r, placesD m l] (roofD (mnR r l l.length)) := by
  refine sat_of_wp hMix tOk Try.func102 rfl rfl Try.ntmps102 rfl rfl Try.results102 (by kernel_rfl) ?_
  conv => whnf
  repeat (first | (refine go_E34 ?_; conv => whnf) | (refine lk_E34 ?_; conv => whnf))
  refine loop_rule (α := Nat) (fun i => [(2, .ptr (2, 0, 0) 0), (4, .ptr (4, 0, 0) 0), (7, placesD m l), (8, .v (.int .i64 l.length)), (9, .v (.int .i64 i))]) (fun i => [((2, 0, 0), roofD (mnR r l i)), ((4, 0, 0), cont (.v ti34.zero))]) (fun i => i ≤ l.length) (fun i => l.length - i) (0) ?_ (sim_of (rn := [((2, 0, 0), (2, 0, 0)), ((4, 0, 0), (4, 0, 0))]) rfl ?_ ?_) ?_
  · exact okt_E34
  · exact hold_E34
  · ((repeat' (first | exact trivial | apply And.intro)) <;> ((first | refine ⟨_, _, rfl, rfl, ?_⟩ ); rfl))
  intro i hi
  conv => whnf
  repeat (first | (refine go_E34 ?_; conv => whnf) | (refine lk_E34 ?_; conv => whnf))
  cases h : decide ((i : Int) < (l.length : Int))
  · have hn : i = l.length := by simp at h; omega
    subst hn
    conv => whnf
    repeat (first | (refine go_E34 ?_; conv => whnf) | (refine lk_E34 ?_; conv => whnf))
    first | refine ⟨rfl, _, rfl, ?_⟩ | refine ⟨_, rfl, ?_⟩
    skip
    have e : ∀ zs : List Value, zs.length = 67 → List.take 67 (List.drop 0 (splice zs 0 (List.take 67 (List.drop 0 (roofC (mnR r l l.length)))))) = roofC (mnR r l l.length) := fun zs hz => by
      rw [take_drop0 (xs := roofC (mnR r l l.length)) (by simp), splice_all (by rw [hz]; simp), take_drop0 (by simp)]
    exact congrArg (fun l => D.v (.agg ⟨l⟩)) (e _ rfl).symm
  have hlt : i < l.length := by simpa using h
  have hq := hin i hlt
  conv => whnf
  repeat (first | (refine go_E34 ?_; conv => whnf) | (refine lk_E34 ?_; conv => whnf))
  first | refine ⟨_, _, rfl, sc_E34 (with_sat (mnR r l i) (nthP l i).1 (nthP l i).2 hq.1 hq.2 0 (by omega)), ?_⟩ | refine .inl ⟨_, _, rfl, sc_E34 (with_sat (mnR r l i) (nthP l i).1 (nthP l i).2 hq.1 hq.2 0 (by omega)), ?_⟩
  conv => whnf
  repeat (first | (refine go_E34 ?_; conv => whnf) | (refine lk_E34 ?_; conv => whnf))
  refine ⟨i + 1, ?_, ?_, sim_of (rn := [((2, 0, 0), (2, 0, 0)), ((4, 0, 0), (4, 0, 0))]) rfl ?_ ?_⟩
  · (dsimp only; omega)
  · exact okt_E34
  · exact hold_E34
  · ((repeat' (first | exact trivial | apply And.intro)) <;> ((first | refine ⟨_, _, rfl, rfl, ?_⟩ ); first | rfl | (first | exact csplice (by simp))))
theorem after_sat (r : Roof) (hr : r.In) (hb : Rb r) (w : Nat → Int) (hw : W1 w) (l : List Pl) (hl : l.length ≤ 1048576) (hin : AllIn l) (m : Bool) : Sat Try.prog 47 [roofD r, raiD w, placesD m l] (.v (.int .i64 (afI r w l))) := by
  refine sat_of_wp hMix tOk Try.func47 rfl rfl Try.ntmps47 rfl rfl Try.results47 (by kernel_rfl) ?_
  conv => whnf
  repeat (first | (refine go_E34 ?_; conv => whnf) | (refine lk_E34 ?_; conv => whnf))
  first | refine ⟨_, _, rfl, sc_E34 (mended_sat r hr l hl hin false), ?_⟩ | refine .inl ⟨_, _, rfl, sc_E34 (mended_sat r hr l hl hin false), ?_⟩
  conv => whnf
  repeat (first | (refine go_E34 ?_; conv => whnf) | (refine lk_E34 ?_; conv => whnf))
  first | refine ⟨_, _, rfl, sc_E34 (dripSum_sat (mnR r l l.length) (mnR_in hr l _) (by unfold Rb; simpa using hb) w hw), ?_⟩ | refine .inl ⟨_, _, rfl, sc_E34 (dripSum_sat (mnR r l l.length) (mnR_in hr l _) (by unfold Rb; simpa using hb) w hw), ?_⟩
  conv => whnf
  repeat (first | (refine go_E34 ?_; conv => whnf) | (refine lk_E34 ?_; conv => whnf))
  first | refine ⟨rfl, _, rfl, ?_⟩ | refine ⟨_, rfl, ?_⟩
  rfl
theorem l03After_sat (r : Roof) (hr : r.In) (hb : Rb r) (w : Nat → Int) (hw : W1 w) (l : List Pl) (hl : l.length ≤ 1048576) (hin : AllIn l) (m : Bool) : Sat Try.prog 41 [.ref false (roofD r) 0, .ref false (raiD w) 0, placesD m l] (.v (.int .i64 (afI r w l))) := by
  refine sat_of_wp hMix tOk Try.func41 rfl rfl Try.ntmps41 rfl rfl Try.results41 (by kernel_rfl) ?_
  conv => whnf
  repeat (first | (refine go_E34 ?_; conv => whnf) | (refine lk_E34 ?_; conv => whnf))
  refine loop_rule (α := Nat) (fun i => [(1, .ref false (raiD w) 0), (2, placesD m l), (7, .ptr (7, 0, 0) 0), (8, .v (.int .i64 i))]) (fun i => [((7, 0, 0), roofD (mnR r l i))]) (fun i => i ≤ l.length) (fun i => l.length - i) (0) ?_ (sim_of (rn := [((7, 0, 0), (7, 0, 0))]) rfl ?_ ?_) ?_
  · exact okt_E34
  · exact hold_E34
  · ((repeat' (first | exact trivial | apply And.intro)) <;> ((first | refine ⟨_, _, rfl, rfl, ?_⟩ ); first | rfl | (exact croof rfl)))
  intro i hi
  conv => whnf
  repeat (first | (refine go_E34 ?_; conv => whnf) | (refine lk_E34 ?_; conv => whnf))
  cases h : decide ((i : Int) < (l.length : Int))
  · have hn : i = l.length := by simp at h; omega
    subst hn
    conv => whnf
    repeat (first | (refine go_E34 ?_; conv => whnf) | (refine lk_E34 ?_; conv => whnf))
    first | refine ⟨_, _, rfl, sc_E34 (l02Sum_sat (mnR r l l.length) (mnR_in hr l _) (by unfold Rb; simpa using hb) w hw), ?_⟩ | refine .inl ⟨_, _, rfl, sc_E34 (l02Sum_sat (mnR r l l.length) (mnR_in hr l _) (by unfold Rb; simpa using hb) w hw), ?_⟩
    conv => whnf
    repeat (first | (refine go_E34 ?_; conv => whnf) | (refine lk_E34 ?_; conv => whnf))
    first | refine ⟨rfl, _, rfl, ?_⟩ | refine ⟨_, rfl, ?_⟩
    rfl
  have hlt : i < l.length := by simpa using h
  have hq := hin i hlt
  have e := roof_set (r := mnR r l i) (c := (nthP l i).1) (k := (nthP l i).2) (o := 0 + 3 + ((nthP l i).1 : Int).toNat * 8 + ((nthP l i).2 : Int).toNat * 1) (x := 0) (by simp) hq.1 hq.2
  conv => whnf
  repeat (first | (refine go_E34 ?_; conv => whnf) | (refine lk_E34 ?_; conv => whnf))
  refine ⟨i + 1, ?_, ?_, sim_of (rn := [((7, 0, 0), (7, 0, 0))]) rfl ?_ ?_⟩
  · (dsimp only; omega)
  · exact okt_E34
  · exact hold_E34
  · ((repeat' (first | exact trivial | apply And.intro)) <;> ((first | refine ⟨_, _, rfl, rfl, ?_⟩ ); first | rfl | (exact cset e)))
theorem l03Wrong_sat (r : Roof) (hr : r.In) (hb : Rb r) : Sat Try.prog 50 [.ref false (roofD r) 0] (placesD true (wrP r)) := by
  have hall : Sat Try.prog 104 [.ref false (roofD r) 0] (placesD true (gridP r.w.toNat r.h.toNat)) := by rw [← allP_true]; exact l01All_sat r hr hb
  have hl := gridP_size hb
  have hps := gridP_in (w := r.w.toNat) (h := r.h.toNat) (by omega) (by omega)
  have hres : wrP r = selP (wrB r) (gridP r.w.toNat r.h.toNat) (gridP r.w.toNat r.h.toNat).length := by rw [selP_all]; exact allP_eq r _
  rw [hres]
  generalize gridP r.w.toNat r.h.toNat = ps at *
  refine sat_of_wp hMix tOk Try.func50 rfl rfl Try.ntmps50 rfl rfl Try.results50 (by kernel_rfl) ?_
  conv => whnf
  repeat (first | (refine go_E34 ?_; conv => whnf) | (refine lk_E34 ?_; conv => whnf))
  first | refine ⟨_, _, rfl, sc_E34 (hall), ?_⟩ | refine .inl ⟨_, _, rfl, sc_E34 (hall), ?_⟩
  conv => whnf
  repeat (first | (refine go_E34 ?_; conv => whnf) | (refine lk_E34 ?_; conv => whnf))
  refine loop_rule (α := Nat) (fun i => [(0, .ref false (roofD r) 0), (3, .slc true 2 (28, 0, 0) 0 (selP (wrB r) ps i).length), (4, .slc true 2 (8, 0, 0) 0 ps.length), (5, .v (.int .i64 i))]) (fun i => [((8, 0, 0), .v (.agg ⟨placesC ps⟩)), ((28, 0, 0), .v (.agg ⟨placesC (selP (wrB r) ps i)⟩))]) (fun i => i ≤ ps.length) (fun i => ps.length - i) (0) ?_ (sim_of (rn := [((8, 0, 0), (8, 0, 0)), ((28, 0, 0), (6, 0, 0))]) rfl ?_ ?_) ?_
  · exact okt_E34
  · exact hold_E34
  · ((repeat' (first | exact trivial | apply And.intro)) <;> ((first | refine ⟨_, _, rfl, rfl, ?_⟩ ); rfl))
  intro i hi
  conv => whnf
  repeat (first | (refine go_E34 ?_; conv => whnf) | (refine lk_E34 ?_; conv => whnf))
  cases h : decide ((i : Int) < (ps.length : Int))
  · have hin : i = ps.length := by simp at h; omega
    subst hin
    conv => whnf
    repeat (first | (refine go_E34 ?_; conv => whnf) | (refine lk_E34 ?_; conv => whnf))
    first | refine ⟨rfl, _, rfl, ?_⟩ | refine ⟨_, rfl, ?_⟩
    rfl
  have hin : i < ps.length := by simpa using h
  have hqi := hps i hin
  have hsl := selP_len (wrB r) ps i
  conv => whnf
  repeat (first | (refine go_E34 ?_; conv => whnf) | (refine lk_E34 ?_; conv => whnf))
  first | refine ⟨_, _, rfl, sc_E34 (l01At_sat r hr (nthP ps i).1 (nthP ps i).2 hqi.1 hqi.2), ?_⟩ | refine .inl ⟨_, _, rfl, sc_E34 (l01At_sat r hr (nthP ps i).1 (nthP ps i).2 hqi.1 hqi.2), ?_⟩
  conv => whnf
  repeat (first | (refine go_E34 ?_; conv => whnf) | (refine lk_E34 ?_; conv => whnf))
  cases hp : (r.t (nthP ps i).1 (nthP ps i).2 != 0)
  · have hw0 : wrB r (nthP ps i).1 (nthP ps i).2 = false := hp
    conv => whnf
    repeat (first | (refine go_E34 ?_; conv => whnf) | (refine lk_E34 ?_; conv => whnf))
    rw [← selP_no hin hw0]
    refine ⟨i + 1, ?_, ?_, sim_of (rn := [((8, 0, 0), (8, 0, 0)), ((28, 0, 0), (28, 0, 0))]) rfl ?_ ?_⟩
    · (dsimp only; omega)
    · exact okt_E34
    · exact hold_E34
    · ((repeat' (first | exact trivial | apply And.intro)) <;> ((first | refine ⟨_, _, rfl, rfl, ?_⟩ ); rfl))
  have hw1 : wrB r (nthP ps i).1 (nthP ps i).2 = true := hp
  have e1 := selP_yes hin hw1
  have e2 : placesC (selP (wrB r) ps i) ++ [.int .i8 (nthP ps i).1, .int .i8 (nthP ps i).2] = placesC (selP (wrB r) ps (i + 1)) := by rw [e1, placesC_append]; rfl
  have e3 : (selP (wrB r) ps i).length + 1 = (selP (wrB r) ps (i + 1)).length := by rw [e1, List.length_append]; rfl
  conv => whnf
  repeat (first | (refine go_E34 ?_; conv => whnf) | (refine lk_E34 ?_; conv => whnf))
  have e0 : List.take ti61.size (List.drop (0 + (i : Int).toNat * ti61.size) ({ toList := placesC ps } : Array Value).toList) = [.int .i8 (nthP ps i).1, .int .i8 (nthP ps i).2] := place_load (by simp) hin
  rw [e0]
  conv => whnf
  repeat (first | (refine go_E34 ?_; conv => whnf) | (refine lk_E34 ?_; conv => whnf))
  refine ⟨i + 1, ?_, ?_, sim_of (rn := [((8, 0, 0), (8, 0, 0)), ((28, 0, 0), (28, 1, 0))]) rfl ?_ ?_⟩
  · (dsimp only; omega)
  · exact okt_E34
  · exact hold_E34
  · ((repeat' (first | exact trivial | apply And.intro)) <;> ((first | refine ⟨_, _, rfl, rfl, ?_⟩ ); first | rfl | (exact cset e2)))
theorem l03Places0_sat (r : Roof) (hr : r.In) (w : Nat → Int) (hw : RaiIn w) (b m : Bool) : Sat Try.prog 49 [.ref false (roofD r) 0, .ref false (raiD w) 0, placesD m [], .v (.bool b)] (.v (.int .i64 (rnK r w b))) := by
  refine sat_of_wp hMix tOk Try.func49 rfl rfl Try.ntmps49 rfl rfl Try.results49 (by kernel_rfl) ?_
  conv => whnf
  repeat (first | (refine go_E34 ?_; conv => whnf) | (refine lk_E34 ?_; conv => whnf))
  first | refine ⟨_, _, rfl, sc_E34 (l02Ok_sat r hr w hw), ?_⟩ | refine .inl ⟨_, _, rfl, sc_E34 (l02Ok_sat r hr w hw), ?_⟩
  conv => whnf
  repeat (first | (refine go_E34 ?_; conv => whnf) | (refine lk_E34 ?_; conv => whnf))
  cases hO : okN r w
  · conv => whnf
    repeat (first | (refine go_E34 ?_; conv => whnf) | (refine lk_E34 ?_; conv => whnf))
    rw [show rnK r w b = 1 by unfold rnK; rw [hO]; rfl]
    first | refine ⟨rfl, _, rfl, ?_⟩ | refine ⟨_, rfl, ?_⟩
    rfl
  conv => whnf
  repeat (first | (refine go_E34 ?_; conv => whnf) | (refine lk_E34 ?_; conv => whnf))
  refine loop_rule (α := Nat) (fun i => [(2, placesD m []), (3, .v (.bool b)), (9, .v (.int .i64 0))]) (fun i => []) (fun i => i ≤ 0) (fun i => 0 - i) (0) ?_ (sim_of (rn := []) rfl ?_ ?_) ?_
  · exact okt_E34
  · exact hold_E34
  · ((repeat' (first | exact trivial | apply And.intro)) <;> ((first | refine ⟨_, _, rfl, rfl, ?_⟩ ); rfl))
  intro i hi
  conv => whnf
  repeat (first | (refine go_E34 ?_; conv => whnf) | (refine lk_E34 ?_; conv => whnf))
  cases b
  · conv => whnf
    repeat (first | (refine go_E34 ?_; conv => whnf) | (refine lk_E34 ?_; conv => whnf))
    rw [show rnK r w false = 2 by unfold rnK; rw [hO]; rfl]
    first | refine ⟨rfl, _, rfl, ?_⟩ | refine ⟨_, rfl, ?_⟩
    rfl
  · conv => whnf
    repeat (first | (refine go_E34 ?_; conv => whnf) | (refine lk_E34 ?_; conv => whnf))
    rw [show rnK r w true = 0 by unfold rnK; rw [hO]; rfl]
    first | refine ⟨rfl, _, rfl, ?_⟩ | refine ⟨_, rfl, ?_⟩
    rfl
theorem l03Chosen_sat (ws : List Pl) (hl : ws.length ≤ 64) (s : Nat) (hs : s < 4294967296) (m : Bool) : Sat Try.prog 51 [placesD m ws, .v (.int .i64 s)] (placesD true (chP ws s ws.length)) := by
  refine sat_of_wp hMix tOk Try.func51 rfl rfl Try.ntmps51 rfl rfl Try.results51 (by kernel_rfl) ?_
  conv => whnf
  repeat (first | (refine go_E34 ?_; conv => whnf) | (refine lk_E34 ?_; conv => whnf))
  refine loop_rule (α := Nat) (fun i => [(0, placesD m ws), (1, .v (.int .i64 s)), (5, .slc true 2 (26, 0, 0) 0 (chP ws s i).length), (6, .v (.int .i64 i))]) (fun i => [((26, 0, 0), .v (.agg ⟨placesC (chP ws s i)⟩))]) (fun i => i ≤ ws.length) (fun i => ws.length - i) (0) ?_ (sim_of (rn := [((26, 0, 0), (7, 0, 0))]) rfl ?_ ?_) ?_
  · exact okt_E34
  · exact hold_E34
  · ((repeat' (first | exact trivial | apply And.intro)) <;> ((first | refine ⟨_, _, rfl, rfl, ?_⟩ ); rfl))
  intro i hi
  have hcl := chP_len ws s i
  conv => whnf
  repeat (first | (refine go_E34 ?_; conv => whnf) | (refine lk_E34 ?_; conv => whnf))
  cases h : decide ((i : Int) < (ws.length : Int))
  · have hin : i = ws.length := by simp at h; omega
    subst hin
    conv => whnf
    repeat (first | (refine go_E34 ?_; conv => whnf) | (refine lk_E34 ?_; conv => whnf))
    first | refine ⟨rfl, _, rfl, ?_⟩ | refine ⟨_, rfl, ?_⟩
    rfl
  have hin : i < ws.length := by simpa using h
  have hbit := bit64_eq hs (show i < 64 by omega)
  unfold bit64 at hbit
  conv => whnf
  repeat (first | (refine go_E34 ?_; conv => whnf) | (refine lk_E34 ?_; conv => whnf))
  rw [show IntKind.u64.wrap (i : Int) = (i : Int) from wu64 (by omega) (by omega)]
  rw [hbit]
  cases hp : s.testBit i
  · conv => whnf
    repeat (first | (refine go_E34 ?_; conv => whnf) | (refine lk_E34 ?_; conv => whnf))
    rw [← chP_no hp]
    refine ⟨i + 1, ?_, ?_, sim_of (rn := [((26, 0, 0), (26, 0, 0))]) rfl ?_ ?_⟩
    · (dsimp only; omega)
    · exact okt_E34
    · exact hold_E34
    · ((repeat' (first | exact trivial | apply And.intro)) <;> ((first | refine ⟨_, _, rfl, rfl, ?_⟩ ); rfl))
  have e1 := chP_yes (ws := ws) hp
  have e2 : placesC (chP ws s i) ++ [.int .i8 (nthP ws i).1, .int .i8 (nthP ws i).2] = placesC (chP ws s (i + 1)) := by rw [e1, placesC_append]; rfl
  have e3 : (chP ws s i).length + 1 = (chP ws s (i + 1)).length := by rw [e1, List.length_append]; rfl
  conv => whnf
  repeat (first | (refine go_E34 ?_; conv => whnf) | (refine lk_E34 ?_; conv => whnf))
  have e0 : List.take ti61.size (List.drop ((i : Int).toNat * ti61.size) ({ toList := placesC ws } : Array Value).toList) = [.int .i8 (nthP ws i).1, .int .i8 (nthP ws i).2] := place_load (by simp) hin
  rw [e0]
  conv => whnf
  repeat (first | (refine go_E34 ?_; conv => whnf) | (refine lk_E34 ?_; conv => whnf))
  refine ⟨i + 1, ?_, ?_, sim_of (rn := [((26, 0, 0), (26, 1, 0))]) rfl ?_ ?_⟩
  · (dsimp only; omega)
  · exact okt_E34
  · exact hold_E34
  · ((repeat' (first | exact trivial | apply And.intro)) <;> ((first | refine ⟨_, _, rfl, rfl, ?_⟩ ); first | rfl | (exact cset e2)))
theorem repairs1_sat (ws : List Pl) (hl : ws.length ≤ 64) (s : Nat) (hs : s < 4294967296) : Sat Try.prog 111 [.v (.int .i64 s), refP false ws] (placesD true (chP ws s ws.length)) := by
  refine satN_of_wp hMix tOk Try.func111 rfl rfl Try.ntmps111 rfl rfl Try.results111 (by kernel_rfl) ?_
  conv => whnf
  repeat (first | (refine go_E34 ?_; conv => whnf) | (refine lk_E34 ?_; conv => whnf))
  refine loop_rule (α := Nat) (fun i => [(0, .v (.int .i64 s)), (4, .slc true 2 (22, 0, 0) 0 (chP ws s i).length), (7, placesD false ws), (8, .v (.int .i64 ws.length)), (9, .v (.int .i64 i))]) (fun i => [((22, 0, 0), .v (.agg ⟨placesC (chP ws s i)⟩))]) (fun i => i ≤ ws.length) (fun i => ws.length - i) (0) ?_ (sim_of (rn := [((22, 0, 0), nilId)]) rfl ?_ ?_) ?_
  · exact okt_E34
  · exact hold_E34
  · ((repeat' (first | exact trivial | apply And.intro)) <;> ((first | refine ⟨_, _, rfl, rfl, ?_⟩ ); rfl))
  intro i hi
  have hcl := chP_len ws s i
  conv => whnf
  repeat (first | (refine go_E34 ?_; conv => whnf) | (refine lk_E34 ?_; conv => whnf))
  cases h : decide ((i : Int) < (ws.length : Int))
  · have hin : i = ws.length := by simp at h; omega
    subst hin
    conv => whnf
    repeat (first | (refine go_E34 ?_; conv => whnf) | (refine lk_E34 ?_; conv => whnf))
    first | refine ⟨rfl, _, rfl, [_], rfl, ?_, rfl⟩ | refine ⟨_, rfl, [_], rfl, ?_, rfl⟩
    ((repeat' (first | exact trivial | apply And.intro)) <;> first | exact .inl rfl | exact .inr ⟨rfl, rfl⟩)
  have hin : i < ws.length := by simpa using h
  have hbit := bit64_eq hs (show i < 64 by omega)
  unfold bit64 at hbit
  conv => whnf
  repeat (first | (refine go_E34 ?_; conv => whnf) | (refine lk_E34 ?_; conv => whnf))
  rw [hbit]
  cases hp : s.testBit i
  · conv => whnf
    repeat (first | (refine go_E34 ?_; conv => whnf) | (refine lk_E34 ?_; conv => whnf))
    rw [← chP_no hp]
    refine ⟨i + 1, ?_, ?_, sim_of (rn := [((22, 0, 0), (22, 0, 0))]) rfl ?_ ?_⟩
    · (dsimp only; omega)
    · exact okt_E34
    · exact hold_E34
    · ((repeat' (first | exact trivial | apply And.intro)) <;> ((first | refine ⟨_, _, rfl, rfl, ?_⟩ ); rfl))
  have e1 := chP_yes (ws := ws) hp
  have e2 : placesC (chP ws s i) ++ [.int .i8 (nthP ws i).1, .int .i8 (nthP ws i).2] = placesC (chP ws s (i + 1)) := by rw [e1, placesC_append]; rfl
  have e3 : (chP ws s i).length + 1 = (chP ws s (i + 1)).length := by rw [e1, List.length_append]; rfl
  conv => whnf
  repeat (first | (refine go_E34 ?_; conv => whnf) | (refine lk_E34 ?_; conv => whnf))
  rw [fill1 (a := [.int .i8 (nthP ws i).1, .int .i8 (nthP ws i).2]) (s := _) ?hx (by rfl) (by rfl)]
  case hx =>
    show D.v (.agg ⟨List.take 2 (List.drop 0 (splice [Value.int .i8 0, .int .i8 0] 0 (List.take 2 (List.drop ((i : Int).toNat * 2) (placesC ws)))))⟩) = _
    rw [place_load (by simp) hin]; rfl
  dsimp only
  conv => whnf
  repeat (first | (refine go_E34 ?_; conv => whnf) | (refine lk_E34 ?_; conv => whnf))
  refine ⟨i + 1, ?_, ?_, sim_of (rn := [((22, 0, 0), (22, 1, 0))]) rfl ?_ ?_⟩
  · (dsimp only; omega)
  · exact okt_E34
  · exact hold_E34
  · ((repeat' (first | exact trivial | apply And.intro)) <;> ((first | refine ⟨_, _, rfl, rfl, ?_⟩ ); first | rfl | (exact cset e2)))
theorem repairCode_sat (r : Roof) (hr : r.In) (w : Nat → Int) (hw : RaiIn w) (b : Bool) : Sat Try.prog 53 [roofD r, raiD w, .v (.bool b)] (.v (.int .i64 (if rnK r w b = 0 ∧ 10 < (wrP r).length then 3 else rnK r w b))) := by
  refine sat_of_wp hMix tOk Try.func53 rfl rfl Try.ntmps53 rfl rfl Try.results53 (by kernel_rfl) ?_
  conv => whnf
  repeat (first | (refine go_E34 ?_; conv => whnf) | (refine lk_E34 ?_; conv => whnf))
  first | refine ⟨_, _, rfl, sc_E34 (rainCode_sat r hr w hw b), ?_⟩ | refine .inl ⟨_, _, rfl, sc_E34 (rainCode_sat r hr w hw b), ?_⟩
  conv => whnf
  repeat (first | (refine go_E34 ?_; conv => whnf) | (refine lk_E34 ?_; conv => whnf))
  cases h : (rnK r w b == 0)
  · have h' : ¬ rnK r w b = 0 := by simpa using h
    rw [if_neg (by simp [h'])]
    conv => whnf
    repeat (first | (refine go_E34 ?_; conv => whnf) | (refine lk_E34 ?_; conv => whnf))
    first | refine ⟨rfl, _, rfl, ?_⟩ | refine ⟨_, rfl, ?_⟩
    rfl
  have h' : rnK r w b = 0 := by simpa using h
  have hO : okN r w = true := by
    unfold rnK at h'
    split at h'
    · assumption
    · cases h'
  have hb := okR_bounds (okN_R hO)
  conv => whnf
  repeat (first | (refine go_E34 ?_; conv => whnf) | (refine lk_E34 ?_; conv => whnf))
  first | refine ⟨_, _, rfl, sc_E34 (wrong_sat r hr hb), ?_⟩ | refine .inl ⟨_, _, rfl, sc_E34 (wrong_sat r hr hb), ?_⟩
  conv => whnf
  repeat (first | (refine go_E34 ?_; conv => whnf) | (refine lk_E34 ?_; conv => whnf))
  cases h2 : decide (((wrP r).length : Int) > 10)
  · rw [if_neg (by simp at h2; omega)]
    conv => whnf
    repeat (first | (refine go_E34 ?_; conv => whnf) | (refine lk_E34 ?_; conv => whnf))
    first | refine ⟨rfl, _, rfl, ?_⟩ | refine ⟨_, rfl, ?_⟩
    rfl
  · rw [if_pos ⟨h', by simp at h2; omega⟩]
    conv => whnf
    repeat (first | (refine go_E34 ?_; conv => whnf) | (refine lk_E34 ?_; conv => whnf))
    first | refine ⟨rfl, _, rfl, ?_⟩ | refine ⟨_, rfl, ?_⟩
    rfl
end Go.Proofs.Ytcjaihndhplclaa
/- Contracts: lists of lists of places: made, chosen from, the first of them. -/
set_option linter.unusedVariables false
set_option linter.unusedSimpArgs false
namespace Go.V
/- Words for the walks of this text: their default arguments are tried where they are used. -/
theorem go_E35 {P Q : Prop} (k : Q) (h : P := by first | exact Nat.le_of_ble_eq_true rfl | exact rfl | decide | omega | (simp [splice]; done) | (constructor <;> omega) | (simp [splice]; omega)) : P ∧ Q := ⟨h, k⟩
theorem lk_E35 {α : Type} {o : Option α} {K : α → Prop} {x : α} (k : K x) (h : o = some x := by first | exact raiA (by omega) | exact raiA' (by omega) | exact roofN (by omega) (by omega) | exact gridN (by omega) (by omega) | exact intA (by omega) | exact intA' (by omega) | exact placeA (by omega) | exact placeB (by omega) | exact placeA' (by omega) | exact placeB' (by omega)) : optK o K := optK_of h k
theorem sc_E35 {P : Program} {g : FuncId} {args args' : List D} {res : D} (h : Sat P g args res) (e : args' = args := by repeat (first | rfl | exact vfull (by first | (simp [splice]; done) | (simp [splice]; omega)) | exact rfull (by first | (simp [splice]; done) | (simp [splice]; omega)) | exact vplace (by simp; done) (by omega) | exact vrow (by simp; done) (by omega) | exact vtiles (by simp) | exact vsplice (by simp) (by simp) | refine ceq ?_ ?_ | refine Eq.trans (vsplice (by first | (simp; done) | (simp; omega)) (by first | (simp; done) | (simp; omega))) ?_)) : Sat P g args' res := Sat.of_eq h e
theorem leaf_E35 {P : Prop} (h : P := by first | rfl | exact succ8 (by omega) | exact succ64 (by omega) | exact CapOk.fn (by assumption) _ _ | exact vintS (by omega) | exact vintS (by rw [w64 (by omega) (by omega)]; omega) | exact vintS (by rw [w8 (by omega) (by omega)]; omega) | exact vslcS (by omega) | exact vslcS (by simp)) : P := h
theorem okt_E35 {P : Prop} (h : P := by first | omega | (dsimp only; omega) | ((repeat' apply And.intro) <;> omega) | (dsimp only; (repeat' apply And.intro) <;> omega) | trivial) : P := h
end Go.V
namespace Go.V
/-- The cells of a list of lists of places. -/
def rwC : List (List Pl) → D
  | [] => .v (.agg ⟨[]⟩)
  | l :: r => .agg (List.map (placesD true) (l :: r))
def llD (m : Bool) (ls : List (List Pl)) : D := .row m 1 (rwC ls) ls.length
theorem mapO_self {f : D → Option D} {l : List (List Pl)} (h : ∀ x, f (placesD true x) = some (placesD true x)) : mapO f (l.map (placesD true)) = some (l.map (placesD true)) := by
  induction l with
  | nil => rfl
  | cons x l ih => rw [List.map_cons, mapO, h, ih]
theorem rwC_deep {bad : List Id} {m : Id → Option D} (ls : List (List Pl)) : deep true bad m depth (rwC ls) = some (rwC ls) := by
  cases ls with
  | nil => rfl
  | cons l r =>
    show deep true bad m (11 + 1) (.agg (List.map (placesD true) (l :: r))) = _
    exact deepAgg (mapO_self fun x => rfl)
theorem rwC_ren {rn : Rn} (ls : List (List Pl)) : renD rn depth (rwC ls) = some (rwC ls) := by
  cases ls with
  | nil => rfl
  | cons l r =>
    show renD rn (11 + 1) (.agg (List.map (placesD true) (l :: r))) = _
    exact renAgg (mapO_self fun x => rfl)
theorem rwC_snoc (ls : List (List Pl)) (l : List Pl) : rwC (ls ++ [l]) = .agg (ls.map (placesD true) ++ [placesD true l]) := by
  cases ls with
  | nil => rfl
  | cons x r => show D.agg (List.map (placesD true) ((x :: r) ++ [l])) = _; rw [List.map_append]; rfl
/-- A list that was just made, at the end of others, told as one of them. -/
theorem rwC_frz {id : Id} {live : Id → Bool} (ls : List (List Pl)) (l : List Pl) :
    D.agg (List.map (frzD id (placesC l) live 11) (ls.map (placesD true) ++ [.slc true 2 id 0 l.length])) = rwC (ls ++ [l]) := by
  rw [rwC_snoc, List.map_append, List.map_map]
  congr 2
  show [frzD id (placesC l) live (10 + 1) (.slc true 2 id 0 l.length)] = _
  rw [frzD, idEq_iff.2 rfl]
  rfl
theorem rwC_cat (ls : List (List Pl)) (ds : List D) : catC (rwC ls) (.agg ds) = some (.agg (ls.map (placesD true) ++ ds)) := by
  cases ls <;> rfl
theorem frzL {id : Id} {live : Id → Bool} (f : Nat → List Pl) (i : Nat) :
    some (D.agg (List.map (frzD id (placesC (f i)) live 11) (((List.range i).map f).map (placesD true) ++ [.slc true 2 id 0 (f i).length]))) = some (rwC ((List.range (i + 1)).map f)) := by
  rw [rwC_frz, List.range_succ, List.map_append]; rfl
/-- A list of lists, handed back. -/
theorem rwC_exp {id : Id} (hid : Nat.ble lentKey id.1 = false) {m : Id → Option D} {ls : List (List Pl)} {n : Nat} (hm : m id = some (rwC ls)) (hn : ls.length = n) : mapO (expD [id] m) [.slc true 1 id 0 n] = some [llD true ls] := by
  subst hn
  simp only [mapO, expD, hid, cond_false, hm, rwC_deep]
  rfl
end Go.V
namespace Go.Proofs.Ytcjaihndhplclaa
open Go.V
set_option maxRecDepth 8000 in
theorem eachPP_sat {g : Nat} {caps : List D} {f : Nat → List Pl} (n : Nat) (hn : n ≤ 4096) (hc : CapOk caps) (hcf : ∀ id xs live, caps.map (frzD id xs live 11) = caps) (hg : ∀ i, i < n → Sat Try.prog g (.v (.int .i64 i) :: caps) (placesD true (f i))) (m : Bool) :
    Sat Try.prog 109 [intsD m (upL n), .fn (.func g) [] caps] (llD true ((List.range n).map f)) := by
  have hul := upL_len n
  refine satS_of_wp hMix tOk Try.func109 rfl rfl Try.ntmps109 rfl rfl Try.results109 (by kernel_rfl) ?_
  conv => whnf
  repeat (first | (refine go_E35 ?_; conv => whnf) | (refine lk_E35 ?_; conv => whnf))
  refine loop_ruleS (α := Nat) (fun i => [(1, .fn (.func g) [] caps), (5, .slc true 1 (19, 0, 0) 0 i), (8, intsD m (upL n)), (9, .v (.int .i64 n)), (10, .v (.int .i64 i))]) (fun i => [((19, 0, 0), rwC ((List.range i).map f))]) (fun i => i ≤ n) (fun i => n - i) (0) ?_ (sim_ofS rfl (rn := [((19, 0, 0), nilId)]) rfl ?_ ?_) ?_
  · exact okt_E35
  · ((repeat' (first | exact trivial | apply And.intro)) <;> (first | rfl | (first | exact hc.fn _ _ | exact vintS (by rw [hul])) | exact leaf_E35))
  · ((repeat' (first | exact trivial | apply And.intro)) <;> ((first | refine ⟨_, _, rfl, rfl, ?_⟩ | refine ⟨_, _, rfl, rwC_ren _, ?_⟩); rfl))
  intro i hi
  conv => whnf
  repeat (first | (refine go_E35 ?_; conv => whnf) | (refine lk_E35 ?_; conv => whnf))
  cases h : decide ((i : Int) < (n : Int))
  · have hin : i = n := by simp at h; omega
    subst hin
    conv => whnf
    repeat (first | (refine go_E35 ?_; conv => whnf) | (refine lk_E35 ?_; conv => whnf))
    left
    conv => whnf
    refine ⟨rfl, _, rwC_exp rfl rfl (by simp), [_], rfl, ?_, rfl⟩
    exact ⟨.inl rfl, trivial⟩
  have hin : i < n := by simpa using h
  conv => whnf
  repeat (first | (refine go_E35 ?_; conv => whnf) | (refine lk_E35 ?_; conv => whnf))
  rw [upL_ix hin]
  first | refine ⟨_, _, CapOk.one (by assumption) rfl, sc_E35 (hg i hin), ?_⟩ | refine .inl ⟨_, _, CapOk.one (by assumption) rfl, sc_E35 (hg i hin), ?_⟩
  conv => whnf
  repeat (first | (refine go_E35 ?_; conv => whnf) | (refine lk_E35 ?_; conv => whnf))
  rw [rwC_cat]
  conv => whnf
  repeat (first | (refine go_E35 ?_; conv => whnf) | (refine lk_E35 ?_; conv => whnf))
  refine ⟨i + 1, ?_, ?_, Sim.trans (frz_sim (id := (17, 1, 0)) (xs := placesC (f i)) rfl rfl rfl) (sim_ofS rfl (rn := [((19, 0, 0), (19, 1, 0))]) rfl ?_ ?_)⟩
  · (dsimp only; omega)
  · exact okt_E35
  · ((repeat' (first | exact trivial | apply And.intro)) <;> (first | rfl | (exact (hc.fn _ _).trans (congrArg (fun l => some (D.fn (.func g) [] l)) (hcf _ _ _).symm)) | exact leaf_E35))
  · ((repeat' (first | exact trivial | apply And.intro)) <;> ((first | refine ⟨_, _, rfl, rfl, ?_⟩ | refine ⟨_, _, rfl, rwC_ren _, ?_⟩); first | (exact frzL f i) | rfl))
end Go.Proofs.Ytcjaihndhplclaa
/- Contracts: all repairs; those that keep a bound; the first of them. -/
set_option linter.unusedVariables false
set_option linter.unusedSimpArgs false
namespace Go.V
/- Words for the walks of this text: their default arguments are tried where they are used. -/
theorem go_E36 {P Q : Prop} (k : Q) (h : P := by first | exact Nat.le_of_ble_eq_true rfl | exact rfl | decide | omega | (simp [splice]; done) | (constructor <;> omega) | (simp [splice]; omega)) : P ∧ Q := ⟨h, k⟩
theorem lk_E36 {α : Type} {o : Option α} {K : α → Prop} {x : α} (k : K x) (h : o = some x := by first | exact raiA (by omega) | exact raiA' (by omega) | exact roofN (by omega) (by omega) | exact gridN (by omega) (by omega) | exact intA (by omega) | exact intA' (by omega) | exact placeA (by omega) | exact placeB (by omega) | exact placeA' (by omega) | exact placeB' (by omega) | exact llA (by omega) | exact llA' (by omega) | exact llB (by omega) | exact llB0 (by omega)) : optK o K := optK_of h k
theorem sc_E36 {P : Program} {g : FuncId} {args args' : List D} {res : D} (h : Sat P g args res) (e : args' = args := by repeat (first | rfl | exact vfull (by first | (simp [splice]; done) | (simp [splice]; omega)) | exact rfull (by first | (simp [splice]; done) | (simp [splice]; omega)) | exact vfnP (by constructor <;> simp) | exact vrefP (by constructor <;> simp) | exact vplace (by simp; done) (by omega) | exact vrow (by simp; done) (by omega) | exact vtiles (by simp) | exact vsplice (by simp) (by simp) | refine ceq ?_ ?_ | refine Eq.trans (vsplice (by first | (simp; done) | (simp; omega)) (by first | (simp; done) | (simp; omega))) ?_)) : Sat P g args' res := Sat.of_eq h e
theorem leaf_E36 {P : Prop} (h : P := by first | rfl | exact succ8 (by omega) | exact succ64 (by omega) | exact CapOk.fn (by assumption) _ _ | exact vintS (by omega) | exact vintS (by rw [w64 (by omega) (by omega)]; omega) | exact vintS (by rw [w8 (by omega) (by omega)]; omega) | exact vslcS (by omega) | exact vslcS (by simp)) : P := h
end Go.V
namespace Go.V
def lx (ls : List (List Pl)) (i : Nat) : List Pl := ls.getD i []
theorem lx_some {ls : List (List Pl)} {i : Nat} (h : i < ls.length) : ls[i]? = some (lx ls i) := by
  unfold lx; rw [List.getD_eq_getElem?_getD]; simp [h]
theorem llA {fl : Bool} {ls : List (List Pl)} {i : Nat} (h : i < ls.length) : nth (ls.map (placesD fl)) (0 + (i : Int).toNat * 1) = some (placesD fl (lx ls i)) := by
  rw [nth_eq, List.getElem?_map, show 0 + (i : Int).toNat * 1 = i by omega, lx_some h]; rfl
theorem llA' {fl : Bool} {ls : List (List Pl)} {i : Nat} (h : i < ls.length) : nth (ls.map (placesD fl)) ((i : Int).toNat * 1) = some (placesD fl (lx ls i)) := by
  rw [nth_eq, List.getElem?_map, show (i : Int).toNat * 1 = i by omega, lx_some h]; rfl
theorem llB {fl : Bool} {ls : List (List Pl)} {ts : List D} {i : Nat} (h : i < ls.length) : nth (ls.map (placesD fl) ++ ts) (0 + (i : Int).toNat * 1) = some (placesD fl (lx ls i)) := by
  rw [nth_eq, List.getElem?_append_left (by simp; omega), ← nth_eq]; exact llA h
theorem llB0 {fl : Bool} {ls : List (List Pl)} {ts : List D} (h : 0 < ls.length) : nth (ls.map (placesD fl) ++ ts) (0 + Int.toNat 0 * 1) = some (placesD fl (lx ls 0)) := llB (i := 0) h
theorem mapO_selfF {fl : Bool} {f : D → Option D} {l : List (List Pl)} (h : ∀ x, f (placesD fl x) = some (placesD fl x)) : mapO f (l.map (placesD fl)) = some (l.map (placesD fl)) := by
  induction l with
  | nil => rfl
  | cons x l ih => rw [List.map_cons, mapO, h, ih]
theorem renLL {rn : Rn} {m fl : Bool} {ls : List (List Pl)} {n : Nat} : renD rn depth (.row m 1 (.agg (ls.map (placesD fl))) n) = some (.row m 1 (.agg (ls.map (placesD fl))) n) := by
  have : renD rn (10 + 1) (.agg (ls.map (placesD fl))) = some (.agg (ls.map (placesD fl))) := renAgg (mapO_selfF fun x => rfl)
  show (match renD rn 11 (.agg (ls.map (placesD fl))) with | some c' => some (D.row m 1 c' n) | none => none) = _
  rw [this]
theorem vfnP {f : Fn} {l : List Pl} {n k : Nat} (h : (placesC l).length ≤ n ∧ k = l.length) : D.fn f [] [D.ref false (.agg [.row false 2 (.v (.agg ⟨((placesC l).drop 0).take n⟩)) k]) 0] = D.fn f [] [refP false l] := by rw [vrefP h]
/-- What is kept, moved to the front, behind the first j. -/
def dlX (keep : List Pl → Bool) (ls : List (List Pl)) : Nat → List (List Pl)
  | 0 => ls
  | j + 1 => if keep (lx ls j) = true then (dlX keep ls j).set ((ls.take j).filter keep).length (lx ls j) else dlX keep ls j
@[simp] theorem dlX_len (keep : List Pl → Bool) (ls : List (List Pl)) : ∀ j, (dlX keep ls j).length = ls.length
  | 0 => rfl
  | j + 1 => by simp only [dlX]; split <;> simp [dlX_len keep ls j]
theorem take_lx {ls : List (List Pl)} {j : Nat} (h : j < ls.length) : ls.take (j + 1) = ls.take j ++ [lx ls j] := by
  rw [List.take_add_one, lx_some h]; rfl
theorem keep_le (keep : List Pl → Bool) (ls : List (List Pl)) (j : Nat) : ((ls.take j).filter keep).length ≤ j := by
  have := List.length_filter_le keep (ls.take j)
  simp at this; omega
theorem keep_yes {keep : List Pl → Bool} {ls : List (List Pl)} {j : Nat} (h : j < ls.length) (hk : keep (lx ls j) = true) : (ls.take (j + 1)).filter keep = (ls.take j).filter keep ++ [lx ls j] := by
  rw [take_lx h, List.filter_append]; simp [hk]
theorem keep_no {keep : List Pl → Bool} {ls : List (List Pl)} {j : Nat} (h : j < ls.length) (hk : keep (lx ls j) = false) : (ls.take (j + 1)).filter keep = (ls.take j).filter keep := by
  rw [take_lx h, List.filter_append]; simp [hk]
theorem dlX_spec (keep : List Pl → Bool) (ls : List (List Pl)) : ∀ j, j ≤ ls.length → (dlX keep ls j).take ((ls.take j).filter keep).length = (ls.take j).filter keep ∧ (dlX keep ls j).drop j = ls.drop j
  | 0, _ => by simp [dlX]
  | j + 1, hj => by
    obtain ⟨h1, h2⟩ := dlX_spec keep ls j (by omega)
    have hle := keep_le keep ls j
    have hlen := dlX_len keep ls j
    have hlt : j < ls.length := by omega
    have hd : (dlX keep ls j).drop (j + 1) = ls.drop (j + 1) := by
      rw [← List.drop_drop, ← List.drop_drop, h2]
    cases hk : keep (lx ls j)
    · rw [keep_no hlt hk]
      simp only [dlX, hk]
      exact ⟨h1, hd⟩
    · rw [keep_yes hlt hk]
      simp only [dlX, hk, if_true]
      generalize hF : (ls.take j).filter keep = F at *
      refine ⟨?_, ?_⟩
      · rw [List.length_append, List.length_singleton, List.take_add_one, List.take_set, List.getElem?_set_self (by omega)]
        rw [List.set_eq_of_length_le (by simp; omega), h1]
        rfl
      · rw [List.drop_set, if_pos (by omega)]; exact hd
theorem dlX_at {keep : List Pl → Bool} {ls : List (List Pl)} {j : Nat} (h : j < ls.length) : lx (dlX keep ls j) j = lx ls j := by
  have h2 := (dlX_spec keep ls j (by omega)).2
  have e1 := lx_some (ls := dlX keep ls j) (i := j) (by simpa using h)
  have e2 := lx_some h
  have e3 : ((dlX keep ls j).drop j)[0]? = (ls.drop j)[0]? := by rw [h2]
  simp only [List.getElem?_drop, Nat.add_zero] at e3
  rw [e1, e2] at e3
  exact Option.some.inj e3
theorem dlX_same {keep : List Pl → Bool} {ls : List (List Pl)} : ∀ {j : Nat}, j ≤ ls.length → (∀ i, i < j → keep (lx ls i) = true) → dlX keep ls j = ls ∧ ((ls.take j).filter keep).length = j
  | 0, _, _ => by simp [dlX]
  | j + 1, hj, h => by
    obtain ⟨h1, h2⟩ := dlX_same (j := j) (by omega) fun i hi => h i (by omega)
    have hk := h j (by omega)
    refine ⟨?_, by rw [keep_yes (by omega) hk, List.length_append, h2]; rfl⟩
    simp only [dlX, hk, if_true, h1, h2]
    apply List.ext_getElem?
    intro i
    rw [List.getElem?_set]
    split
    · rename_i e; subst e; rw [if_pos (by omega), lx_some (by omega)]
    · rfl
theorem below_succ' {p : Nat → Bool} {n : Nat} (h : ∀ j, j < n → p j = false) (hn : p n = false) : ∀ j, j < n + 1 → p j = false := fun j hj => by
  by_cases e : j = n
  · rw [e]; exact hn
  · exact h j (by omega)
def nilS : D := .v (.slice none 0 0)
def kpC (keep : List Pl → Bool) (ls : List (List Pl)) : D := .agg ((ls.filter keep).map (placesD true) ++ List.replicate (ls.length - (ls.filter keep).length) nilS)
end Go.V
namespace Go.Proofs.Ytcjaihndhplclaa
open Go.V
theorem repairs_sat (r : Roof) (hr : r.In) (hb : Rb r) (hn : (wrP r).length ≤ 10) : Sat Try.prog 55 [roofD r] (llD true (rpA r)) := by
  have hp : (2 : Nat) ^ (wrP r).length ≤ 2 ^ 10 := Nat.pow_le_pow_right (by omega) hn
  have hN : rpN r ≤ 1024 := hp
  refine sat_of_wp hMix tOk Try.func55 rfl rfl Try.ntmps55 rfl rfl Try.results55 (by kernel_rfl) ?_
  conv => whnf
  repeat (first | (refine go_E36 ?_; conv => whnf) | (refine lk_E36 ?_; conv => whnf))
  first | refine ⟨_, _, rfl, sc_E36 (wrong_sat r hr hb), ?_⟩ | refine .inl ⟨_, _, rfl, sc_E36 (wrong_sat r hr hb), ?_⟩
  conv => whnf
  repeat (first | (refine go_E36 ?_; conv => whnf) | (refine lk_E36 ?_; conv => whnf))
  rw [show IntKind.i64.wrap (1 * 2 ^ (min ((wrP r).length : Int).toNat IntKind.i64.bits)) = ((rpN r : Nat) : Int) from by
    rw [show min ((wrP r).length : Int).toNat IntKind.i64.bits = (wrP r).length by show min ((wrP r).length : Int).toNat 64 = _; omega, Int.one_mul]
    have e : (2 : Int) ^ (wrP r).length = ((rpN r : Nat) : Int) := by unfold rpN; push_cast; rfl
    rw [e]
    exact w64 (by omega) (by omega)]
  first | refine ⟨_, _, rfl, sc_E36 (upTo_sat (rpN r) (by omega)), ?_⟩ | refine .inl ⟨_, _, rfl, sc_E36 (upTo_sat (rpN r) (by omega)), ?_⟩
  conv => whnf
  repeat (first | (refine go_E36 ?_; conv => whnf) | (refine lk_E36 ?_; conv => whnf))
  first | refine ⟨_, _, rfl, sc_E36 (eachPP_sat (f := rpL r) (g := 111) (caps := [refP false (wrP r)]) (rpN r) (by omega) ⟨fun _ => rfl, fun _ => rfl⟩ (fun _ _ _ => rfl) (fun i hi => repairs1_sat (wrP r) (by omega) i (by omega)) false), ?_⟩ | refine .inl ⟨_, _, rfl, sc_E36 (eachPP_sat (f := rpL r) (g := 111) (caps := [refP false (wrP r)]) (rpN r) (by omega) ⟨fun _ => rfl, fun _ => rfl⟩ (fun _ _ _ => rfl) (fun i hi => repairs1_sat (wrP r) (by omega) i (by omega)) false), ?_⟩
  conv => whnf
  repeat (first | (refine go_E36 ?_; conv => whnf) | (refine lk_E36 ?_; conv => whnf))
  exact ⟨_, rwC_exp rfl rfl rfl, rfl⟩
theorem indexFuncLL_sat {g : Nat} {caps : List D} {del : List Pl → Bool} (ls : List (List Pl)) (hl : ls.length ≤ 1048576) (hc : CapOk caps) (hg : ∀ i, i < ls.length → Sat Try.prog g (placesD false (lx ls i) :: caps) (.v (.bool (del (lx ls i))))) (m : Bool) :
    Sat Try.prog 108 [.row m 1 (.agg (ls.map (placesD false))) ls.length, .fn (.func g) [] caps] (.v (.int .i64 (idxN ls.length fun i => del (lx ls i)))) := by
  refine sat_of_wp hMix tOk Try.func108 rfl rfl Try.ntmps108 rfl rfl Try.results108 (by kernel_rfl) ?_
  conv => whnf
  repeat (first | (refine go_E36 ?_; conv => whnf) | (refine lk_E36 ?_; conv => whnf))
  refine loop_rule (α := Nat) (fun i => [(0, .row m 1 (.agg (ls.map (placesD false))) ls.length), (1, .fn (.func g) [] caps), (7, .v (.int .i64 ls.length)), (8, .v (.int .i64 i))]) (fun i => []) (fun i => i ≤ ls.length ∧ ∀ j, j < i → del (lx ls j) = false) (fun i => ls.length - i) (0) ?_ (sim_of (rn := []) rfl ?_ ?_) ?_
  · exact ⟨by omega, fun j hj => by omega⟩
  · ((repeat' (first | exact trivial | apply And.intro)) <;> (first | rfl | (first | exact hc.fn _ _ | exact renLL) | exact leaf_E36))
  · ((repeat' (first | exact trivial | apply And.intro)) <;> ((first | refine ⟨_, _, rfl, rfl, ?_⟩ ); rfl))
  rintro i ⟨hi, hall⟩
  conv => whnf
  repeat (first | (refine go_E36 ?_; conv => whnf) | (refine lk_E36 ?_; conv => whnf))
  cases h : decide ((i : Int) < (ls.length : Int))
  · have hin : i = ls.length := by simp at h; omega
    subst hin
    rw [idxN_none hall]
    conv => whnf
    repeat (first | (refine go_E36 ?_; conv => whnf) | (refine lk_E36 ?_; conv => whnf))
    first | refine ⟨rfl, _, rfl, ?_⟩ | refine ⟨_, rfl, ?_⟩
    rfl
  have hin : i < ls.length := by simpa using h
  conv => whnf
  repeat (first | (refine go_E36 ?_; conv => whnf) | (refine lk_E36 ?_; conv => whnf))
  first | refine ⟨_, _, CapOk.one (by assumption) rfl, sc_E36 (hg i hin), ?_⟩ | refine .inl ⟨_, _, CapOk.one (by assumption) rfl, sc_E36 (hg i hin), ?_⟩
  conv => whnf
  repeat (first | (refine go_E36 ?_; conv => whnf) | (refine lk_E36 ?_; conv => whnf))
  cases hd : del (lx ls i)
  · conv => whnf
    repeat (first | (refine go_E36 ?_; conv => whnf) | (refine lk_E36 ?_; conv => whnf))
    refine ⟨i + 1, ?_, ?_, sim_of (rn := []) rfl ?_ ?_⟩
    · (dsimp only; omega)
    · exact ⟨by omega, below_succ' hall hd⟩
    · ((repeat' (first | exact trivial | apply And.intro)) <;> (first | rfl | (first | exact hc.fn _ _ | exact renLL) | exact leaf_E36))
    · ((repeat' (first | exact trivial | apply And.intro)) <;> ((first | refine ⟨_, _, rfl, rfl, ?_⟩ ); rfl))
  · rw [idxN_some hin hd hall]
    conv => whnf
    repeat (first | (refine go_E36 ?_; conv => whnf) | (refine lk_E36 ?_; conv => whnf))
    first | refine ⟨rfl, _, rfl, ?_⟩ | refine ⟨_, rfl, ?_⟩
    rfl
end Go.Proofs.Ytcjaihndhplclaa
