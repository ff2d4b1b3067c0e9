/- Contracts: all words, patterns found again, both sides, and the law. -/
import Derived.Test.YtlpgfemmbnkaiaaC23
import Derived.Test.YtlpgfemmbnkaiaaB5
set_option linter.unusedVariables false
set_option linter.unusedSimpArgs false
namespace Go.V
def letB : ByteArray := ⟨#[98]⟩
def letR : ByteArray := ⟨#[114]⟩
/-- The j-th word of n letters. -/
def word : Nat → Nat → ByteArray
  | 0, _ => ⟨#[]⟩
  | n + 1, j => word n (j / 2) ++ (if j % 2 = 1 then letR else letB)
@[simp] theorem word_size : ∀ n j, (word n j).size = n
  | 0, _ => rfl
  | n + 1, j => by
    have h1 := word_size n (j / 2)
    have h2 : (if j % 2 = 1 then letR else letB).size = 1 := by split <;> rfl
    simp only [word, ByteArray.size_append, h1, h2]
@[irreducible] def wordsC (n m : Nat) : List Value := tab m fun j => .string (word n j)
@[simp] theorem wordsC_len (n m : Nat) : (wordsC n m).length = m := by unfold wordsC; simp
theorem wordA {n m i : Nat} (h : i < m) : nth (wordsC n m) (0 + (i : Int).toNat * 1) = some (.string (word n i)) := by
  unfold wordsC; rw [nth_tab (by simpa using h)]; simp
theorem wordsC_two (n i : Nat) : wordsC (n + 1) (2 * i) ++ [.string (word n i ++ letB), .string (word n i ++ letR)] = wordsC (n + 1) (2 * (i + 1)) := by
  unfold wordsC
  rw [tab_def, tab_def, show 2 * (i + 1) = 2 * i + 1 + 1 by omega, List.range_succ, List.range_succ, List.map_append, List.map_append, List.append_assoc]
  congr 1
  simp only [List.map_cons, List.map_nil, List.singleton_append, word]
  have h1 : 2 * i / 2 = i := by omega
  have h2 : (2 * i + 1) / 2 = i := by omega
  rw [h1, h2, if_neg (by omega), if_pos (by omega)]
theorem wordsC_nil (n : Nat) : wordsC n 0 = [] := List.length_eq_zero_iff.1 (by simp)
theorem wordsC_first : wordsC 0 1 = [.string ⟨#[]⟩] := by unfold wordsC; rw [tab_def]; rfl
theorem acc_in (b : ByteArray) (s : Nat) (ps : List Pl) : RowIn (acc b s ps) := by
  unfold acc
  suffices h : ∀ (ps : List Pl) (f : Nat → Int), RowIn f → RowIn (ps.foldl (accS b s) f) from h ps _ ⟨fun _ => by omega⟩
  intro ps
  induction ps with
  | nil => intro f h; exact h
  | cons q ps ih =>
    intro f h
    refine ih _ ⟨fun j => ?_⟩
    unfold accS
    split
    · unfold orU8
      simp only [IntKind.wrap, IntKind.bits, IntKind.signed]
      simp
      omega
    · exact h.t j
/-- Whether a pattern is some colours. -/
def eq8 (f g : Nat → Int) : Bool := (List.range 8).all fun i => f i == g i
theorem eq8_iff {f g : Nat → Int} : eq8 f g = true ↔ row8 f = row8 g := by
  unfold eq8
  simp only [List.all_eq_true, List.mem_range, beq_iff_eq]
  constructor
  · intro h
    unfold row8
    exact tab_congr fun i hi => by rw [h i hi]
  · intro h i hi
    have h1 := row8_get (f := f) (i := i) (k := i) rfl hi
    have h2 := row8_get (f := g) (i := i) (k := i) rfl hi
    rw [h, h2] at h1
    simpa using h1.symm
def isPat (r : Roof) (f : Nat → Int) (n j s : Nat) : Bool := eq8 (patR r (word n j) s) f
def findS (r : Roof) (f : Nat → Int) (n j : Nat) : Option Nat := (List.range n).find? fun s => isPat r f n j s
def findJ (r : Roof) (f : Nat → Int) (n : Nat) : Option (Nat × Nat) := (List.range (2 ^ n)).findSome? fun j => (findS r f n j).map fun s => (j, s)
def findN (r : Roof) (f : Nat → Int) (m : Nat) : Option (Nat × Nat × Nat) := (List.range m).findSome? fun n => (findJ r f (n + 1)).map fun q => (n + 1, q)
theorem find_some {p : Nat → Bool} {n s : Nat} (h : s < n) (hp : p s = true) (hno : ∀ j, j < s → p j = false) : (List.range n).find? p = some s := by
  rw [List.find?_range_eq_some]
  exact ⟨hp, by simpa using h, fun j hj => by simp [hno j hj]⟩
theorem find_none {p : Nat → Bool} {n : Nat} (hno : ∀ j, j < n → p j = false) : (List.range n).find? p = none := by
  rw [List.find?_eq_none]
  intro x hx
  simp [hno x (by simpa using hx)]
theorem findSome_some {α : Type} {g : Nat → Option α} {x : α} : ∀ {n s : Nat}, s < n → g s = some x → (∀ j, j < s → g j = none) → (List.range n).findSome? g = some x
  | 0, s, h, _, _ => by omega
  | n + 1, s, h, hp, hno => by
    rw [List.range_succ, List.findSome?_append]
    by_cases hs : s < n
    · rw [findSome_some hs hp hno]; rfl
    · have : s = n := by omega
      subst this
      have : (List.range s).findSome? g = none := by
        rw [List.findSome?_eq_none_iff]
        intro j hj
        exact hno j (by simpa using hj)
      rw [this]
      simp [hp]
theorem findSome_none {α : Type} {g : Nat → Option α} {n : Nat} (hno : ∀ j, j < n → g j = none) : (List.range n).findSome? g = none := by
  rw [List.findSome?_eq_none_iff]
  intro j hj
  exact hno j (by simpa using hj)
def pofK (r : Roof) (f : Nat → Int) (m : Int) : Int := if okC r f = true then (if 1 ≤ m ∧ m ≤ 5 then (match findN r f m.toNat with | some _ => 0 | none => 6) else 2) else 1
def pofD (r : Roof) (f : Nat → Int) (m : Int) : D :=
  if okC r f = true then (if 1 ≤ m ∧ m ≤ 5 then (match findN r f m.toNat with
    | some (n, j, s) => .tup [.v (.string (word n j)), .v (.int .i64 s), .v (.int .i64 0)]
    | none => .tup [.v (.string ⟨#[]⟩), .v (.int .i64 0), .v (.int .i64 6)]) else .tup [.v (.string ⟨#[]⟩), .v (.int .i64 0), .v (.int .i64 2)])
  else .tup [.v (.string ⟨#[]⟩), .v (.int .i64 0), .v (.int .i64 1)]
theorem okC_bounds {r : Roof} {f : Nat → Int} (h : okC r f = true) : (1 ≤ r.w ∧ r.w ≤ 8) ∧ (1 ≤ r.h ∧ r.h ≤ 8) ∧ r.s ≤ 1 := by
  simp only [okC, Bool.and_eq_true] at h
  exact okR_bounds h.1
theorem below_succ {p : Nat → Prop} {q : Nat} (h : ∀ k, k < q → p k) (hq : p q) : ∀ k, k < q + 1 → p k := by
  intro k hk
  by_cases e : k = q
  · subst e; exact hq
  · exact h k (by omega)
end Go.V
namespace Go.Proofs.Ytlpgfemmbnkaiaa
open Go.V
theorem eqAgg_row8 {f g : Nat → Int} (hf : RowIn f) (hg : RowIn g) : EqAgg Try.prog 31 (row8 f) (row8 g) (eq8 f g) := by
  have fit : ∀ h : Nat → Int, RowIn h → ∀ (i : Nat) (x : Value), (row8 h)[i]? = some x → ∃ z, x = Value.int .u8 z ∧ (Lit.int .u8 z).wf = true := by
    intro h hh i x hx
    unfold row8 at hx
    by_cases hi : i < 8
    · rw [tab_get hi] at hx
      simp only [Option.some.injEq] at hx
      subst hx
      refine ⟨_, rfl, ?_⟩
      have := hh.t i
      simp [Lit.wf, IntKind.min, IntKind.max, IntKind.bits, IntKind.signed]
      omega
    · rw [tab_none (by omega)] at hx; cases hx
  have cells : ∀ h : Nat → Int, RowIn h → ∀ x ∈ row8 h, IntCell x := by
    intro h hh x hx
    obtain ⟨i, hi⟩ := List.getElem?_of_mem hx
    obtain ⟨z, rfl, hz⟩ := fit h hh i x hi
    exact hz
  have hc : Program.cellsOf Try.prog 31 = 8 := by kernel_rfl
  have fm : ∀ h : Nat → Int, Value.formed Try.prog 31 (.agg ⟨row8 h⟩) = true := by
    intro h
    unfold Value.formed
    rw [Try.underlying31]
    simp [hc]
  have kl : ∀ h : Nat → Int, RowIn h → Program.keyLits Try.prog 2 31 (row8 h) = some (litsOf (row8 h)) := fun h hh =>
    keyLits_ints (d := 0) Try.underlying31 Try.underlying5 (by kernel_rfl) hc (by simp) (fit h hh)
  exact eqAgg_of (m := 2) (by omega) (by kernel_rfl) (by kernel_rfl) (fm f) (fm g) (kl f hf) (kl g hg) (cells f hf) (cells g hg) eq8_iff
theorem wordsOf_sat (n : Nat) (hn : n ≤ 5) : Sat Try.prog 87 [.v (.int .i64 n)] (.row true 1 (.v (.agg ⟨wordsC n (2 ^ n)⟩)) (2 ^ n)) := by
  refine sat_of_wp hMix tOk Try.func87 rfl rfl Try.ntmps87 rfl rfl Try.results87 (by kernel_rfl) ?_
  conv => whnf
  repeat (first | (refine And.intro (by first | (with_reducible refine strLe1 ?_; omega) | exact rfl | decide | omega | (simp [splice]; done) | (constructor <;> omega) | (simp [splice]; omega)) ?_; conv => whnf) | (refine optK_of (wordA (by omega)) ?_; conv => whnf) | (refine optK_of (rowN (by omega)) ?_; conv => whnf))
  refine loop_rule (α := Nat) (fun i => [(3, .slc true 1 (7, 0, 0) 0 (2 ^ i)), (8, .v (.int .i64 n)), (9, .v (.int .i64 i))]) (fun i => [((7, 0, 0), .v (.agg ⟨wordsC i (2 ^ i)⟩))]) (fun i => i ≤ n) (fun i => n - i) (0) ?g1a (sim_of (rn := [((7, 0, 0), (7, 0, 0))]) rfl ?g1b ?g1c) ?g1d
  case g1b => ((repeat' (first | exact trivial | apply And.intro)) <;> (first | rfl | exact succ8 (by omega) | exact succ64 (by omega) | exact CapOk.fn (by assumption) _ _ | exact vintS (by omega) | exact vintS (by rw [w64 (by omega) (by omega)]; omega) | exact vintS (by rw [w8 (by omega) (by omega)]; omega) | exact vslcS (by omega) | exact vslcS (by simp)))
  case g1c => ((repeat' (first | exact trivial | apply And.intro)) <;> (refine ⟨_, _, rfl, rfl, ?_⟩; first | rfl | (exact cset wordsC_first.symm)))
  case g1a => first | omega | (dsimp only; omega) | ((repeat' apply And.intro) <;> omega) | (dsimp only; (repeat' apply And.intro) <;> omega) | trivial
  intro i hi
  have hp : 2 ^ i ≤ 32 := by
    have : 2 ^ i ≤ 2 ^ 5 := Nat.pow_le_pow_right (by omega) (by omega)
    omega
  conv => whnf
  repeat (first | (refine And.intro (by first | (with_reducible refine strLe1 ?_; omega) | exact rfl | decide | omega | (simp [splice]; done) | (constructor <;> omega) | (simp [splice]; omega)) ?_; conv => whnf) | (refine optK_of (wordA (by omega)) ?_; conv => whnf) | (refine optK_of (rowN (by omega)) ?_; conv => whnf))
  cases h : decide ((i : Int) < (n : Int))
  · have hin : i = n := by simp at h; omega
    subst hin
    conv => whnf
    repeat (first | (refine And.intro (by first | (with_reducible refine strLe1 ?_; omega) | exact rfl | decide | omega | (simp [splice]; done) | (constructor <;> omega) | (simp [splice]; omega)) ?_; conv => whnf) | (refine optK_of (wordA (by omega)) ?_; conv => whnf) | (refine optK_of (rowN (by omega)) ?_; conv => whnf))
    first | refine ⟨rfl, _, rfl, ?_⟩ | refine ⟨_, rfl, ?_⟩
    rfl
  have hin : i < n := by simpa using h
  conv => whnf
  repeat (first | (refine And.intro (by first | (with_reducible refine strLe1 ?_; omega) | exact rfl | decide | omega | (simp [splice]; done) | (constructor <;> omega) | (simp [splice]; omega)) ?_; conv => whnf) | (refine optK_of (wordA (by omega)) ?_; conv => whnf) | (refine optK_of (rowN (by omega)) ?_; conv => whnf))
  generalize hP : 2 ^ i = p at *
  refine loop_rule (α := Nat) (fun j => [(4, .slc true 1 (23, 0, 0) 0 (2 * j)), (8, .v (.int .i64 n)), (9, .v (.int .i64 i)), (11, .slc true 1 (7, 0, 0) 0 p), (12, .v (.int .i64 p)), (13, .v (.int .i64 j))]) (fun j => [((7, 0, 0), .v (.agg ⟨wordsC i p⟩)), ((23, 0, 0), .v (.agg ⟨wordsC (i + 1) (2 * j)⟩))]) (fun j => j ≤ p) (fun j => p - j) (0) ?g2a (sim_of (rn := [((7, 0, 0), (7, 0, 0)), ((23, 0, 0), nilId)]) rfl ?g2b ?g2c) ?g2d
  case g2b => ((repeat' (first | exact trivial | apply And.intro)) <;> (first | rfl | exact succ8 (by omega) | exact succ64 (by omega) | exact CapOk.fn (by assumption) _ _ | exact vintS (by omega) | exact vintS (by rw [w64 (by omega) (by omega)]; omega) | exact vintS (by rw [w8 (by omega) (by omega)]; omega) | exact vslcS (by omega) | exact vslcS (by simp)))
  case g2c => ((repeat' (first | exact trivial | apply And.intro)) <;> (refine ⟨_, _, rfl, rfl, ?_⟩; first | rfl | (rw [Nat.mul_zero, wordsC_nil]; rfl)))
  case g2a => first | omega | (dsimp only; omega) | ((repeat' apply And.intro) <;> omega) | (dsimp only; (repeat' apply And.intro) <;> omega) | trivial
  intro j hj
  conv => whnf
  repeat (first | (refine And.intro (by first | (with_reducible refine strLe1 ?_; omega) | exact rfl | decide | omega | (simp [splice]; done) | (constructor <;> omega) | (simp [splice]; omega)) ?_; conv => whnf) | (refine optK_of (wordA (by omega)) ?_; conv => whnf) | (refine optK_of (rowN (by omega)) ?_; conv => whnf))
  cases h2 : decide ((j : Int) < (p : Int))
  · have hjn : j = p := by simp at h2; omega
    subst hjn
    conv => whnf
    repeat (first | (refine And.intro (by first | (with_reducible refine strLe1 ?_; omega) | exact rfl | decide | omega | (simp [splice]; done) | (constructor <;> omega) | (simp [splice]; omega)) ?_; conv => whnf) | (refine optK_of (wordA (by omega)) ?_; conv => whnf) | (refine optK_of (rowN (by omega)) ?_; conv => whnf))
    have e : 2 * j = 2 ^ (i + 1) := by rw [Nat.pow_succ, hP]; omega
    rw [e]
    refine ⟨i + 1, ?g3a, ?g3b, sim_of (rn := [((7, 0, 0), (23, 0, 0))]) rfl ?g3c ?g3d⟩
    case g3a => (dsimp only; omega)
    case g3b => first | omega | (dsimp only; omega) | ((repeat' apply And.intro) <;> omega) | (dsimp only; (repeat' apply And.intro) <;> omega) | trivial
    case g3c => ((repeat' (first | exact trivial | apply And.intro)) <;> (first | rfl | exact succ8 (by omega) | exact succ64 (by omega) | exact CapOk.fn (by assumption) _ _ | exact vintS (by omega) | exact vintS (by rw [w64 (by omega) (by omega)]; omega) | exact vintS (by rw [w8 (by omega) (by omega)]; omega) | exact vslcS (by omega) | exact vslcS (by simp)))
    case g3d => ((repeat' (first | exact trivial | apply And.intro)) <;> (refine ⟨_, _, rfl, rfl, ?_⟩; first | rfl | (rfl)))
  have hjn : j < p := by simpa using h2
  have hsz := word_size i j
  conv => whnf
  repeat (first | (refine And.intro (by first | (with_reducible refine strLe1 ?_; omega) | exact rfl | decide | omega | (simp [splice]; done) | (constructor <;> omega) | (simp [splice]; omega)) ?_; conv => whnf) | (refine optK_of (wordA (by omega)) ?_; conv => whnf) | (refine optK_of (rowN (by omega)) ?_; conv => whnf))
  refine ⟨j + 1, ?g4a, ?g4b, sim_of (rn := [((7, 0, 0), (7, 0, 0)), ((23, 0, 0), (23, 1, 0))]) rfl ?g4c ?g4d⟩
  case g4a => (dsimp only; omega)
  case g4b => first | omega | (dsimp only; omega) | ((repeat' apply And.intro) <;> omega) | (dsimp only; (repeat' apply And.intro) <;> omega) | trivial
  case g4c => ((repeat' (first | exact trivial | apply And.intro)) <;> (first | rfl | exact succ8 (by omega) | exact succ64 (by omega) | exact CapOk.fn (by assumption) _ _ | exact vintS (by omega) | exact vintS (by rw [w64 (by omega) (by omega)]; omega) | exact vintS (by rw [w8 (by omega) (by omega)]; omega) | exact vslcS (by omega) | exact vslcS (by simp)))
  case g4d => ((repeat' (first | exact trivial | apply And.intro)) <;> (refine ⟨_, _, rfl, rfl, ?_⟩; first | rfl | (exact cset (wordsC_two i j))))
theorem eqAgg_eq {f g : Nat → Int} {xs ys : List Value} (h1 : xs = row8 f) (h2 : ys = row8 g) (hf : RowIn f) (hg : RowIn g) : EqAgg Try.prog 31 xs ys (eq8 f g) := by
  rw [h1, h2]; exact eqAgg_row8 hf hg
theorem patternOf_sat (r : Roof) (hr : r.In) (f : Nat → Int) (hf : RowIn f) (m : Int) (hm : I64 m) : Sat Try.prog 40 [roofD r, row8D f, .v (.int .i64 m)] (pofD r f m) := by
  refine sat_of_wp hMix tOk Try.func40 rfl rfl Try.ntmps40 rfl rfl Try.results40 (by kernel_rfl) ?_
  conv => whnf
  repeat (first | (refine And.intro (by first | (with_reducible refine strLe1 ?_; omega) | exact rfl | decide | omega | (simp [splice]; done) | (constructor <;> omega) | (simp [splice]; omega)) ?_; conv => whnf) | (refine optK_of (wordA (by omega)) ?_; conv => whnf) | (refine optK_of (rowN (by omega)) ?_; conv => whnf))
  first | refine ⟨_, _, rfl, Sat.of_eq (validColours_sat r hr f hf) (by repeat (first | rfl | exact vfull (by first | (simp [splice]; done) | (simp [splice]; omega)) | exact rfull (by first | (simp [splice]; done) | (simp [splice]; omega)) | exact vplace (by simp; done) (by omega) | exact vrow (by simp; done) (by omega) | exact vtiles (by simp) | exact vsplice (by simp) (by simp) | refine ceq ?_ ?_ | refine Eq.trans (vsplice (by first | (simp; done) | (simp; omega)) (by first | (simp; done) | (simp; omega))) ?_)), ?_⟩ | refine .inl ⟨_, _, rfl, Sat.of_eq (validColours_sat r hr f hf) (by repeat (first | rfl | exact vfull (by first | (simp [splice]; done) | (simp [splice]; omega)) | exact rfull (by first | (simp [splice]; done) | (simp [splice]; omega)) | exact vplace (by simp; done) (by omega) | exact vrow (by simp; done) (by omega) | exact vtiles (by simp) | exact vsplice (by simp) (by simp) | refine ceq ?_ ?_ | refine Eq.trans (vsplice (by first | (simp; done) | (simp; omega)) (by first | (simp; done) | (simp; omega))) ?_)), ?_⟩
  conv => whnf
  repeat (first | (refine And.intro (by first | (with_reducible refine strLe1 ?_; omega) | exact rfl | decide | omega | (simp [splice]; done) | (constructor <;> omega) | (simp [splice]; omega)) ?_; conv => whnf) | (refine optK_of (wordA (by omega)) ?_; conv => whnf) | (refine optK_of (rowN (by omega)) ?_; conv => whnf))
  cases h1 : okC r f
  · conv => whnf
    repeat (first | (refine And.intro (by first | (with_reducible refine strLe1 ?_; omega) | exact rfl | decide | omega | (simp [splice]; done) | (constructor <;> omega) | (simp [splice]; omega)) ?_; conv => whnf) | (refine optK_of (wordA (by omega)) ?_; conv => whnf) | (refine optK_of (rowN (by omega)) ?_; conv => whnf))
    first | refine ⟨rfl, _, rfl, ?_⟩ | refine ⟨_, rfl, ?_⟩
    skip
    unfold pofD; rw [h1]; rfl
  conv => whnf
  repeat (first | (refine And.intro (by first | (with_reducible refine strLe1 ?_; omega) | exact rfl | decide | omega | (simp [splice]; done) | (constructor <;> omega) | (simp [splice]; omega)) ?_; conv => whnf) | (refine optK_of (wordA (by omega)) ?_; conv => whnf) | (refine optK_of (rowN (by omega)) ?_; conv => whnf))
  first | refine ⟨_, _, rfl, Sat.of_eq (within64_sat _ _ _) (by repeat (first | rfl | exact vfull (by first | (simp [splice]; done) | (simp [splice]; omega)) | exact rfull (by first | (simp [splice]; done) | (simp [splice]; omega)) | exact vplace (by simp; done) (by omega) | exact vrow (by simp; done) (by omega) | exact vtiles (by simp) | exact vsplice (by simp) (by simp) | refine ceq ?_ ?_ | refine Eq.trans (vsplice (by first | (simp; done) | (simp; omega)) (by first | (simp; done) | (simp; omega))) ?_)), ?_⟩ | refine .inl ⟨_, _, rfl, Sat.of_eq (within64_sat _ _ _) (by repeat (first | rfl | exact vfull (by first | (simp [splice]; done) | (simp [splice]; omega)) | exact rfull (by first | (simp [splice]; done) | (simp [splice]; omega)) | exact vplace (by simp; done) (by omega) | exact vrow (by simp; done) (by omega) | exact vtiles (by simp) | exact vsplice (by simp) (by simp) | refine ceq ?_ ?_ | refine Eq.trans (vsplice (by first | (simp; done) | (simp; omega)) (by first | (simp; done) | (simp; omega))) ?_)), ?_⟩
  conv => whnf
  repeat (first | (refine And.intro (by first | (with_reducible refine strLe1 ?_; omega) | exact rfl | decide | omega | (simp [splice]; done) | (constructor <;> omega) | (simp [splice]; omega)) ?_; conv => whnf) | (refine optK_of (wordA (by omega)) ?_; conv => whnf) | (refine optK_of (rowN (by omega)) ?_; conv => whnf))
  cases h2 : (decide (1 ≤ m) && decide (m ≤ 5))
  · conv => whnf
    repeat (first | (refine And.intro (by first | (with_reducible refine strLe1 ?_; omega) | exact rfl | decide | omega | (simp [splice]; done) | (constructor <;> omega) | (simp [splice]; omega)) ?_; conv => whnf) | (refine optK_of (wordA (by omega)) ?_; conv => whnf) | (refine optK_of (rowN (by omega)) ?_; conv => whnf))
    first | refine ⟨rfl, _, rfl, ?_⟩ | refine ⟨_, rfl, ?_⟩
    skip
    have : ¬ (1 ≤ m ∧ m ≤ 5) := by simp at h2; omega
    unfold pofD; rw [h1, if_pos rfl, if_neg this]; rfl
  have hm15 : 1 ≤ m ∧ m ≤ 5 := by simpa using h2
  have hb := okC_bounds h1
  have hres : pofD r f m = match findN r f m.toNat with
    | some (n, j, s) => .tup [.v (.string (word n j)), .v (.int .i64 s), .v (.int .i64 0)]
    | none => .tup [.v (.string ⟨#[]⟩), .v (.int .i64 0), .v (.int .i64 6)] := by unfold pofD; rw [h1, if_pos rfl, if_pos hm15]
  rw [hres]
  obtain ⟨M, rfl⟩ := eq_toNat (x := m) (by omega)
  rw [Int.toNat_natCast]
  conv => whnf
  repeat (first | (refine And.intro (by first | (with_reducible refine strLe1 ?_; omega) | exact rfl | decide | omega | (simp [splice]; done) | (constructor <;> omega) | (simp [splice]; omega)) ?_; conv => whnf) | (refine optK_of (wordA (by omega)) ?_; conv => whnf) | (refine optK_of (rowN (by omega)) ?_; conv => whnf))
  refine loop_rule (α := Nat) (fun q => [(2, .v (.int .i64 M)), (3, .ptr (3, 0, 0) 0), (4, .ptr (4, 0, 0) 0), (9, .v (.int .i64 ((q + 1 : Nat) : Int)))]) (fun q => [((3, 0, 0), roofD r), ((4, 0, 0), row8D f)]) (fun q => q ≤ M ∧ ∀ k, k < q → findJ r f (k + 1) = none) (fun q => M - q) (0) ?g5a (sim_of (rn := [((3, 0, 0), (3, 0, 0)), ((4, 0, 0), (4, 0, 0))]) rfl ?g5b ?g5c) ?g5d
  case g5b => ((repeat' (first | exact trivial | apply And.intro)) <;> (first | rfl | exact succ8 (by omega) | exact succ64 (by omega) | exact CapOk.fn (by assumption) _ _ | exact vintS (by omega) | exact vintS (by rw [w64 (by omega) (by omega)]; omega) | exact vintS (by rw [w8 (by omega) (by omega)]; omega) | exact vslcS (by omega) | exact vslcS (by simp)))
  case g5c => ((repeat' (first | exact trivial | apply And.intro)) <;> (refine ⟨_, _, rfl, rfl, ?_⟩; first | rfl | (rfl)))
  case g5a => exact ⟨Nat.zero_le _, by omega⟩
  rintro q ⟨hq, hno⟩
  conv => whnf
  repeat (first | (refine And.intro (by first | (with_reducible refine strLe1 ?_; omega) | exact rfl | decide | omega | (simp [splice]; done) | (constructor <;> omega) | (simp [splice]; omega)) ?_; conv => whnf) | (refine optK_of (wordA (by omega)) ?_; conv => whnf) | (refine optK_of (rowN (by omega)) ?_; conv => whnf))
  cases h3 : decide (((q + 1 : Nat) : Int) ≤ (M : Int))
  · have hqM : q = M := by simp at h3; omega
    subst hqM
    have : findN r f q = none := findSome_none fun j hj => by rw [hno j hj]; rfl
    rw [this]
    conv => whnf
    repeat (first | (refine And.intro (by first | (with_reducible refine strLe1 ?_; omega) | exact rfl | decide | omega | (simp [splice]; done) | (constructor <;> omega) | (simp [splice]; omega)) ?_; conv => whnf) | (refine optK_of (wordA (by omega)) ?_; conv => whnf) | (refine optK_of (rowN (by omega)) ?_; conv => whnf))
    first | refine ⟨rfl, _, rfl, ?_⟩ | refine ⟨_, rfl, ?_⟩
    rfl
  have hqM : q < M := by simp at h3; omega
  have hpow : 2 ^ (q + 1) ≤ 32 := by
    have : 2 ^ (q + 1) ≤ 2 ^ 5 := Nat.pow_le_pow_right (by omega) (by omega)
    omega
  conv => whnf
  repeat (first | (refine And.intro (by first | (with_reducible refine strLe1 ?_; omega) | exact rfl | decide | omega | (simp [splice]; done) | (constructor <;> omega) | (simp [splice]; omega)) ?_; conv => whnf) | (refine optK_of (wordA (by omega)) ?_; conv => whnf) | (refine optK_of (rowN (by omega)) ?_; conv => whnf))
  first | refine ⟨_, _, rfl, Sat.of_eq (wordsOf_sat (q + 1) (by omega)) (by repeat (first | rfl | exact vfull (by first | (simp [splice]; done) | (simp [splice]; omega)) | exact rfull (by first | (simp [splice]; done) | (simp [splice]; omega)) | exact vplace (by simp; done) (by omega) | exact vrow (by simp; done) (by omega) | exact vtiles (by simp) | exact vsplice (by simp) (by simp) | refine ceq ?_ ?_ | refine Eq.trans (vsplice (by first | (simp; done) | (simp; omega)) (by first | (simp; done) | (simp; omega))) ?_)), ?_⟩ | refine .inl ⟨_, _, rfl, Sat.of_eq (wordsOf_sat (q + 1) (by omega)) (by repeat (first | rfl | exact vfull (by first | (simp [splice]; done) | (simp [splice]; omega)) | exact rfull (by first | (simp [splice]; done) | (simp [splice]; omega)) | exact vplace (by simp; done) (by omega) | exact vrow (by simp; done) (by omega) | exact vtiles (by simp) | exact vsplice (by simp) (by simp) | refine ceq ?_ ?_ | refine Eq.trans (vsplice (by first | (simp; done) | (simp; omega)) (by first | (simp; done) | (simp; omega))) ?_)), ?_⟩
  conv => whnf
  repeat (first | (refine And.intro (by first | (with_reducible refine strLe1 ?_; omega) | exact rfl | decide | omega | (simp [splice]; done) | (constructor <;> omega) | (simp [splice]; omega)) ?_; conv => whnf) | (refine optK_of (wordA (by omega)) ?_; conv => whnf) | (refine optK_of (rowN (by omega)) ?_; conv => whnf))
  refine loop_rule (α := Nat) (fun j => [(2, .v (.int .i64 M)), (3, .ptr (3, 0, 0) 0), (4, .ptr (4, 0, 0) 0), (9, .v (.int .i64 ((q + 1 : Nat) : Int))), (28, .slc true 1 (28, 0, 0) 0 (2 ^ (q + 1))), (29, .v (.int .i64 ((2 ^ (q + 1) : Nat) : Int))), (30, .v (.int .i64 j))]) (fun j => [((3, 0, 0), roofD r), ((4, 0, 0), row8D f), ((28, 0, 0), .v (.agg ⟨wordsC (q + 1) (2 ^ (q + 1))⟩))]) (fun j => j ≤ 2 ^ (q + 1) ∧ ∀ k, k < j → findS r f (q + 1) k = none) (fun j => 2 ^ (q + 1) - j) (0) ?g6a (sim_of (rn := [((3, 0, 0), (3, 0, 0)), ((4, 0, 0), (4, 0, 0)), ((28, 0, 0), (28, 1, 0))]) rfl ?g6b ?g6c) ?g6d
  case g6b => ((repeat' (first | exact trivial | apply And.intro)) <;> (first | rfl | exact succ8 (by omega) | exact succ64 (by omega) | exact CapOk.fn (by assumption) _ _ | exact vintS (by omega) | exact vintS (by rw [w64 (by omega) (by omega)]; omega) | exact vintS (by rw [w8 (by omega) (by omega)]; omega) | exact vslcS (by omega) | exact vslcS (by simp)))
  case g6c => ((repeat' (first | exact trivial | apply And.intro)) <;> (refine ⟨_, _, rfl, rfl, ?_⟩; first | rfl | (rfl)))
  case g6a => exact ⟨Nat.zero_le _, by omega⟩
  rintro j ⟨hj, hnoj⟩
  conv => whnf
  repeat (first | (refine And.intro (by first | (with_reducible refine strLe1 ?_; omega) | exact rfl | decide | omega | (simp [splice]; done) | (constructor <;> omega) | (simp [splice]; omega)) ?_; conv => whnf) | (refine optK_of (wordA (by omega)) ?_; conv => whnf) | (refine optK_of (rowN (by omega)) ?_; conv => whnf))
  cases h4 : decide ((j : Int) < ((2 ^ (q + 1) : Nat) : Int))
  · have hjn : j = 2 ^ (q + 1) := by simp only [decide_eq_false_iff_not] at h4; omega
    have hJ : findJ r f (q + 1) = none := findSome_none fun k hk => by rw [hnoj k (by omega)]; rfl
    conv => whnf
    repeat (first | (refine And.intro (by first | (with_reducible refine strLe1 ?_; omega) | exact rfl | decide | omega | (simp [splice]; done) | (constructor <;> omega) | (simp [splice]; omega)) ?_; conv => whnf) | (refine optK_of (wordA (by omega)) ?_; conv => whnf) | (refine optK_of (rowN (by omega)) ?_; conv => whnf))
    have hno' := below_succ (p := fun k => findJ r f (k + 1) = none) hno hJ
    refine ⟨q + 1, ?g7a, ?g7b, sim_of (rn := [((3, 0, 0), (3, 0, 0)), ((4, 0, 0), (4, 0, 0))]) rfl ?g7c ?g7d⟩
    case g7a => (dsimp only; omega)
    case g7b => exact ⟨by omega, hno'⟩
    case g7c => ((repeat' (first | exact trivial | apply And.intro)) <;> (first | rfl | exact succ8 (by omega) | exact succ64 (by omega) | exact CapOk.fn (by assumption) _ _ | exact vintS (by omega) | exact vintS (by rw [w64 (by omega) (by omega)]; omega) | exact vintS (by rw [w8 (by omega) (by omega)]; omega) | exact vslcS (by omega) | exact vslcS (by simp)))
    case g7d => ((repeat' (first | exact trivial | apply And.intro)) <;> (refine ⟨_, _, rfl, rfl, ?_⟩; first | rfl | (rfl)))
  have hjn : j < 2 ^ (q + 1) := by simp only [decide_eq_true_eq] at h4; omega
  conv => whnf
  repeat (first | (refine And.intro (by first | (with_reducible refine strLe1 ?_; omega) | exact rfl | decide | omega | (simp [splice]; done) | (constructor <;> omega) | (simp [splice]; omega)) ?_; conv => whnf) | (refine optK_of (wordA (by omega)) ?_; conv => whnf) | (refine optK_of (rowN (by omega)) ?_; conv => whnf))
  refine loop_rule (α := Nat) (fun s => [(2, .v (.int .i64 M)), (3, .ptr (3, 0, 0) 0), (4, .ptr (4, 0, 0) 0), (9, .v (.int .i64 ((q + 1 : Nat) : Int))), (11, .v (.string (word (q + 1) j))), (28, .slc true 1 (28, 0, 0) 0 (2 ^ (q + 1))), (29, .v (.int .i64 ((2 ^ (q + 1) : Nat) : Int))), (30, .v (.int .i64 j)), (34, .v (.int .i64 ((q + 1 : Nat) : Int))), (35, .v (.int .i64 s))]) (fun s => [((3, 0, 0), roofD r), ((4, 0, 0), row8D f), ((28, 0, 0), .v (.agg ⟨wordsC (q + 1) (2 ^ (q + 1))⟩))]) (fun s => s ≤ q + 1 ∧ ∀ k, k < s → isPat r f (q + 1) j k = false) (fun s => q + 1 - s) (0) ?g8a (sim_of (rn := [((3, 0, 0), (3, 0, 0)), ((4, 0, 0), (4, 0, 0)), ((28, 0, 0), (28, 0, 0))]) rfl ?g8b ?g8c) ?g8d
  case g8b => ((repeat' (first | exact trivial | apply And.intro)) <;> (first | rfl | exact succ8 (by omega) | exact succ64 (by omega) | exact CapOk.fn (by assumption) _ _ | exact vintS (by omega) | exact vintS (by rw [w64 (by omega) (by omega)]; omega) | exact vintS (by rw [w8 (by omega) (by omega)]; omega) | exact vslcS (by omega) | exact vslcS (by simp)))
  case g8c => ((repeat' (first | exact trivial | apply And.intro)) <;> (refine ⟨_, _, rfl, rfl, ?_⟩; first | rfl | (rfl)))
  case g8a => exact ⟨Nat.zero_le _, by omega⟩
  rintro s ⟨hs, hnos⟩
  conv => whnf
  repeat (first | (refine And.intro (by first | (with_reducible refine strLe1 ?_; omega) | exact rfl | decide | omega | (simp [splice]; done) | (constructor <;> omega) | (simp [splice]; omega)) ?_; conv => whnf) | (refine optK_of (wordA (by omega)) ?_; conv => whnf) | (refine optK_of (rowN (by omega)) ?_; conv => whnf))
  cases h5 : decide ((s : Int) < ((q + 1 : Nat) : Int))
  · have hsq : s = q + 1 := by simp only [decide_eq_false_iff_not] at h5; omega
    have hS : findS r f (q + 1) j = none := find_none fun k hk => hnos k (by omega)
    have hnoj' := below_succ (p := fun k => findS r f (q + 1) k = none) hnoj hS
    conv => whnf
    repeat (first | (refine And.intro (by first | (with_reducible refine strLe1 ?_; omega) | exact rfl | decide | omega | (simp [splice]; done) | (constructor <;> omega) | (simp [splice]; omega)) ?_; conv => whnf) | (refine optK_of (wordA (by omega)) ?_; conv => whnf) | (refine optK_of (rowN (by omega)) ?_; conv => whnf))
    refine ⟨j + 1, ?g9a, ?g9b, sim_of (rn := [((3, 0, 0), (3, 0, 0)), ((4, 0, 0), (4, 0, 0)), ((28, 0, 0), (28, 0, 0))]) rfl ?g9c ?g9d⟩
    case g9a => (dsimp only; omega)
    case g9b => exact ⟨by omega, hnoj'⟩
    case g9c => ((repeat' (first | exact trivial | apply And.intro)) <;> (first | rfl | exact succ8 (by omega) | exact succ64 (by omega) | exact CapOk.fn (by assumption) _ _ | exact vintS (by omega) | exact vintS (by rw [w64 (by omega) (by omega)]; omega) | exact vintS (by rw [w8 (by omega) (by omega)]; omega) | exact vslcS (by omega) | exact vslcS (by simp)))
    case g9d => ((repeat' (first | exact trivial | apply And.intro)) <;> (refine ⟨_, _, rfl, rfl, ?_⟩; first | rfl | (rfl)))
  have hsq : s < q + 1 := by simp only [decide_eq_true_eq] at h5; omega
  conv => whnf
  repeat (first | (refine And.intro (by first | (with_reducible refine strLe1 ?_; omega) | exact rfl | decide | omega | (simp [splice]; done) | (constructor <;> omega) | (simp [splice]; omega)) ?_; conv => whnf) | (refine optK_of (wordA (by omega)) ?_; conv => whnf) | (refine optK_of (rowN (by omega)) ?_; conv => whnf))
  first | refine ⟨_, _, rfl, Sat.of_eq (pattern_sat r hr hb (word (q + 1) j) (by simp; omega) s (by omega)) (by repeat (first | rfl | exact vfull (by first | (simp [splice]; done) | (simp [splice]; omega)) | exact rfull (by first | (simp [splice]; done) | (simp [splice]; omega)) | exact vplace (by simp; done) (by omega) | exact vrow (by simp; done) (by omega) | exact vtiles (by simp) | exact vsplice (by simp) (by simp) | refine ceq ?_ ?_ | refine Eq.trans (vsplice (by first | (simp; done) | (simp; omega)) (by first | (simp; done) | (simp; omega))) ?_)), ?_⟩ | refine .inl ⟨_, _, rfl, Sat.of_eq (pattern_sat r hr hb (word (q + 1) j) (by simp; omega) s (by omega)) (by repeat (first | rfl | exact vfull (by first | (simp [splice]; done) | (simp [splice]; omega)) | exact rfull (by first | (simp [splice]; done) | (simp [splice]; omega)) | exact vplace (by simp; done) (by omega) | exact vrow (by simp; done) (by omega) | exact vtiles (by simp) | exact vsplice (by simp) (by simp) | refine ceq ?_ ?_ | refine Eq.trans (vsplice (by first | (simp; done) | (simp; omega)) (by first | (simp; done) | (simp; omega))) ?_)), ?_⟩
  conv => whnf
  repeat (first | (refine And.intro (by first | (with_reducible refine strLe1 ?_; omega) | exact rfl | decide | omega | (simp [splice]; done) | (constructor <;> omega) | (simp [splice]; omega)) ?_; conv => whnf) | (refine optK_of (wordA (by omega)) ?_; conv => whnf) | (refine optK_of (rowN (by omega)) ?_; conv => whnf))
  refine ⟨_, eqAgg_eq (f := patR r (word (q + 1) j) s) (g := f) rfl (take_drop0 (by simp)) (acc_in _ _ _) hf, ?_⟩
  conv => whnf
  rw [show eq8 (patR r (word (q + 1) j) s) f = isPat r f (q + 1) j s from rfl]
  cases h6 : isPat r f (q + 1) j s
  · have hnos' := below_succ (p := fun k => isPat r f (q + 1) j k = false) hnos h6
    conv => whnf
    repeat (first | (refine And.intro (by first | (with_reducible refine strLe1 ?_; omega) | exact rfl | decide | omega | (simp [splice]; done) | (constructor <;> omega) | (simp [splice]; omega)) ?_; conv => whnf) | (refine optK_of (wordA (by omega)) ?_; conv => whnf) | (refine optK_of (rowN (by omega)) ?_; conv => whnf))
    refine ⟨s + 1, ?g10a, ?g10b, sim_of (rn := [((3, 0, 0), (3, 0, 0)), ((4, 0, 0), (4, 0, 0)), ((28, 0, 0), (28, 0, 0))]) rfl ?g10c ?g10d⟩
    case g10a => (dsimp only; omega)
    case g10b => exact ⟨by omega, hnos'⟩
    case g10c => ((repeat' (first | exact trivial | apply And.intro)) <;> (first | rfl | exact succ8 (by omega) | exact succ64 (by omega) | exact CapOk.fn (by assumption) _ _ | exact vintS (by omega) | exact vintS (by rw [w64 (by omega) (by omega)]; omega) | exact vintS (by rw [w8 (by omega) (by omega)]; omega) | exact vslcS (by omega) | exact vslcS (by simp)))
    case g10d => ((repeat' (first | exact trivial | apply And.intro)) <;> (refine ⟨_, _, rfl, rfl, ?_⟩; first | rfl | (rfl)))
  have hS : findS r f (q + 1) j = some s := find_some hsq h6 hnos
  have hJ : findJ r f (q + 1) = some (j, s) := findSome_some (s := j) hjn (by rw [hS]; rfl) fun k hk => by rw [hnoj k hk]; rfl
  have hN : findN r f M = some (q + 1, j, s) := findSome_some (s := q) hqM (by rw [hJ]; rfl) fun k hk => by rw [hno k hk]; rfl
  rw [hN]
  conv => whnf
  repeat (first | (refine And.intro (by first | (with_reducible refine strLe1 ?_; omega) | exact rfl | decide | omega | (simp [splice]; done) | (constructor <;> omega) | (simp [splice]; omega)) ?_; conv => whnf) | (refine optK_of (wordA (by omega)) ?_; conv => whnf) | (refine optK_of (rowN (by omega)) ?_; conv => whnf))
  first | refine ⟨rfl, _, rfl, ?_⟩ | refine ⟨_, rfl, ?_⟩
  rfl
end Go.Proofs.Ytlpgfemmbnkaiaa
