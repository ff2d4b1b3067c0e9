/- Contracts: all words, patterns found again, both sides, and the law. -/
import Derived.Test.YtndlknhakdadjaaC23
import Derived.Test.YtndlknhakdadjaaB5
set_option linter.unusedVariables false
set_option linter.unusedSimpArgs false
namespace Go.V
def letB : ByteArray := ⟨#[98]⟩
def letR : ByteArray := ⟨#[114]⟩
/-- The j-th word of n letters. -/
def word : Nat → Nat → ByteArray
  | 0, _ => ⟨#[]⟩
  | n + 1, j => word n (j / 2) ++ (if j % 2 = 1 then letR else letB)
@[simp] theorem word_size : ∀ n j, (word n j).size = n
  | 0, _ => rfl
  | n + 1, j => by
    have h1 := word_size n (j / 2)
    have h2 : (if j % 2 = 1 then letR else letB).size = 1 := by split <;> rfl
    simp only [word, ByteArray.size_append, h1, h2]
@[irreducible] def wordsC (n m : Nat) : List Value := tab m fun j => .string (word n j)
@[simp] theorem wordsC_len (n m : Nat) : (wordsC n m).length = m := by unfold wordsC; simp
theorem wordA {n m i : Nat} (h : i < m) : nth (wordsC n m) (0 + (i : Int).toNat * 1) = some (.string (word n i)) := by
  unfold wordsC; rw [nth_tab (by simpa using h)]; simp
theorem wordsC_two (n i : Nat) : wordsC (n + 1) (2 * i) ++ [.string (word n i ++ letB), .string (word n i ++ letR)] = wordsC (n + 1) (2 * (i + 1)) := by
  unfold wordsC
  rw [tab_def, tab_def, show 2 * (i + 1) = 2 * i + 1 + 1 by omega, List.range_succ, List.range_succ, List.map_append, List.map_append, List.append_assoc]
  congr 1
  simp only [List.map_cons, List.map_nil, List.singleton_append, word]
  have h1 : 2 * i / 2 = i := by omega
  have h2 : (2 * i + 1) / 2 = i := by omega
  rw [h1, h2, if_neg (by omega), if_pos (by omega)]
theorem wordsC_nil (n : Nat) : wordsC n 0 = [] := List.length_eq_zero_iff.1 (by simp)
theorem wordsC_first : wordsC 0 1 = [.string ⟨#[]⟩] := by unfold wordsC; rw [tab_def]; rfl
theorem acc_in (b : ByteArray) (s : Nat) (ps : List Pl) : RowIn (acc b s ps) := by
  unfold acc
  suffices h : ∀ (ps : List Pl) (f : Nat → Int), RowIn f → RowIn (ps.foldl (accS b s) f) from h ps _ ⟨fun _ => by omega⟩
  intro ps
  induction ps with
  | nil => intro f h; exact h
  | cons q ps ih =>
    intro f h
    refine ih _ ⟨fun j => ?_⟩
    unfold accS
    split
    · unfold orU8
      simp only [IntKind.wrap, IntKind.bits, IntKind.signed]
      simp
      omega
    · exact h.t j
/-- Whether a pattern is some colours. -/
def eq8 (f g : Nat → Int) : Bool := (List.range 8).all fun i => f i == g i
theorem eq8_iff {f g : Nat → Int} : eq8 f g = true ↔ row8 f = row8 g := by
  unfold eq8
  simp only [List.all_eq_true, List.mem_range, beq_iff_eq]
  constructor
  · intro h
    unfold row8
    exact tab_congr fun i hi => by rw [h i hi]
  · intro h i hi
    have h1 := row8_get (f := f) (i := i) (k := i) rfl hi
    have h2 := row8_get (f := g) (i := i) (k := i) rfl hi
    rw [h, h2] at h1
    simpa using h1.symm
def isPat (r : Roof) (f : Nat → Int) (n j s : Nat) : Bool := eq8 (patR r (word n j) s) f
def findS (r : Roof) (f : Nat → Int) (n j : Nat) : Option Nat := (List.range n).find? fun s => isPat r f n j s
def findJ (r : Roof) (f : Nat → Int) (n : Nat) : Option (Nat × Nat) := (List.range (2 ^ n)).findSome? fun j => (findS r f n j).map fun s => (j, s)
def findN (r : Roof) (f : Nat → Int) (m : Nat) : Option (Nat × Nat × Nat) := (List.range m).findSome? fun n => (findJ r f (n + 1)).map fun q => (n + 1, q)
theorem find_some {p : Nat → Bool} {n s : Nat} (h : s < n) (hp : p s = true) (hno : ∀ j, j < s → p j = false) : (List.range n).find? p = some s := by
  rw [List.find?_range_eq_some]
  exact ⟨hp, by simpa using h, fun j hj => by simp [hno j hj]⟩
theorem find_none {p : Nat → Bool} {n : Nat} (hno : ∀ j, j < n → p j = false) : (List.range n).find? p = none := by
  rw [List.find?_eq_none]
  intro x hx
  simp [hno x (by simpa using hx)]
theorem findSome_some {α : Type} {g : Nat → Option α} {x : α} : ∀ {n s : Nat}, s < n → g s = some x → (∀ j, j < s → g j = none) → (List.range n).findSome? g = some x
  | 0, s, h, _, _ => by omega
  | n + 1, s, h, hp, hno => by
    rw [List.range_succ, List.findSome?_append]
    by_cases hs : s < n
    · rw [findSome_some hs hp hno]; rfl
    · have : s = n := by omega
      subst this
      have : (List.range s).findSome? g = none := by
        rw [List.findSome?_eq_none_iff]
        intro j hj
        exact hno j (by simpa using hj)
      rw [this]
      simp [hp]
theorem findSome_none {α : Type} {g : Nat → Option α} {n : Nat} (hno : ∀ j, j < n → g j = none) : (List.range n).findSome? g = none := by
  rw [List.findSome?_eq_none_iff]
  intro j hj
  exact hno j (by simpa using hj)
def pofK (r : Roof) (f : Nat → Int) (m : Int) : Int := if okC r f = true then (if 1 ≤ m ∧ m ≤ 5 then (match findN r f m.toNat with | some _ => 0 | none => 6) else 2) else 1
def pofD (r : Roof) (f : Nat → Int) (m : Int) : D :=
  if okC r f = true then (if 1 ≤ m ∧ m ≤ 5 then (match findN r f m.toNat with
    | some (n, j, s) => .tup [.v (.string (word n j)), .v (.int .i64 s), .v (.int .i64 0)]
    | none => .tup [.v (.string ⟨#[]⟩), .v (.int .i64 0), .v (.int .i64 6)]) else .tup [.v (.string ⟨#[]⟩), .v (.int .i64 0), .v (.int .i64 2)])
  else .tup [.v (.string ⟨#[]⟩), .v (.int .i64 0), .v (.int .i64 1)]
theorem okC_bounds {r : Roof} {f : Nat → Int} (h : okC r f = true) : (1 ≤ r.w ∧ r.w ≤ 8) ∧ (1 ≤ r.h ∧ r.h ≤ 8) ∧ r.s ≤ 1 := by
  simp only [okC, Bool.and_eq_true] at h
  exact okR_bounds h.1
theorem below_succ {p : Nat → Prop} {q : Nat} (h : ∀ k, k < q → p k) (hq : p q) : ∀ k, k < q + 1 → p k := by
  intro k hk
  by_cases e : k = q
  · subst e; exact hq
  · exact h k (by omega)
end Go.V
namespace Go.Proofs.Ytndlknhakdadjaa
open Go.V
theorem eqAgg_row8 {f g : Nat → Int} (hf : RowIn f) (hg : RowIn g) : EqAgg Try.prog 33 (row8 f) (row8 g) (eq8 f g) := by
  have fit : ∀ h : Nat → Int, RowIn h → ∀ (i : Nat) (x : Value), (row8 h)[i]? = some x → ∃ z, x = Value.int .u8 z ∧ (Lit.int .u8 z).wf = true := by
    intro h hh i x hx
    unfold row8 at hx
    by_cases hi : i < 8
    · rw [tab_get hi] at hx
      simp only [Option.some.injEq] at hx
      subst hx
      refine ⟨_, rfl, ?_⟩
      have := hh.t i
      simp [Lit.wf, IntKind.min, IntKind.max, IntKind.bits, IntKind.signed]
      omega
    · rw [tab_none (by omega)] at hx; cases hx
  have cells : ∀ h : Nat → Int, RowIn h → ∀ x ∈ row8 h, IntCell x := by
    intro h hh x hx
    obtain ⟨i, hi⟩ := List.getElem?_of_mem hx
    obtain ⟨z, rfl, hz⟩ := fit h hh i x hi
    exact hz
  have hc : Program.cellsOf Try.prog 33 = 8 := by kernel_rfl
  have fm : ∀ h : Nat → Int, Value.formed Try.prog 33 (.agg ⟨row8 h⟩) = true := by
    intro h
    unfold Value.formed
    rw [Try.underlying33]
    simp [hc]
  have kl : ∀ h : Nat → Int, RowIn h → Program.keyLits Try.prog 2 33 (row8 h) = some (litsOf (row8 h)) := fun h hh =>
    keyLits_ints (d := 0) Try.underlying33 Try.underlying5 (by kernel_rfl) hc (by simp) (fit h hh)
  exact eqAgg_of (m := 2) (by omega) (by kernel_rfl) (by kernel_rfl) (fm f) (fm g) (kl f hf) (kl g hg) (cells f hf) (cells g hg) eq8_iff
theorem eqAgg_eq {f g : Nat → Int} {xs ys : List Value} (h1 : xs = row8 f) (h2 : ys = row8 g) (hf : RowIn f) (hg : RowIn g) : EqAgg Try.prog 33 xs ys (eq8 f g) := by
  rw [h1, h2]; exact eqAgg_row8 hf hg
end Go.Proofs.Ytndlknhakdadjaa
