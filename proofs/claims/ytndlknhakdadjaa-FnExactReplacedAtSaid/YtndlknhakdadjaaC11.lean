/- Contracts: lists of places. -/
import Derived.Test.YtndlknhakdadjaaC10
set_option linter.unusedVariables false
set_option linter.unusedSimpArgs false
namespace Go.V
abbrev Pl := Nat × Nat
def placesC : List Pl → List Value
  | [] => []
  | q :: r => .int .i8 q.1 :: .int .i8 q.2 :: placesC r
theorem placesC_append (a b : List Pl) : placesC (a ++ b) = placesC a ++ placesC b := by
  induction a with
  | nil => rfl
  | cons q a ih => simp only [placesC, List.cons_append, ih]
@[simp] theorem placesC_len (a : List Pl) : (placesC a).length = a.length * 2 := by
  induction a with
  | nil => rfl
  | cons q a ih => simp only [placesC, List.length_cons, ih]; omega
theorem placesC_sub : ∀ {a : List Pl} {i : Nat} {q : Pl}, a[i]? = some q → ((placesC a).drop (i * 2)).take 2 = [.int .i8 q.1, .int .i8 q.2]
  | [], i, q, h => by simp at h
  | p :: a, 0, q, h => by
    simp only [List.getElem?_cons_zero, Option.some.injEq] at h
    subst h
    rfl
  | p :: a, i + 1, q, h => by
    rw [show (i + 1) * 2 = i * 2 + 2 by omega]
    have := placesC_sub (a := a) (i := i) (q := q) (by simpa using h)
    simpa [placesC] using this
def rowP (c k : Nat) : List Pl := (List.range k).map fun j => (c, j)
def gridP (w c : Nat) : List Pl := (List.range c).flatMap fun i => rowP i w
theorem rowP_next (c k : Nat) : rowP c (k + 1) = rowP c k ++ [(c, k)] := by
  unfold rowP; rw [List.range_succ, List.map_append]; rfl
theorem gridP_next (w c : Nat) : gridP w (c + 1) = gridP w c ++ rowP c w := by
  unfold gridP; rw [List.range_succ, List.flatMap_append]; simp
@[simp] theorem rowP_zero (c : Nat) : rowP c 0 = [] := rfl
@[simp] theorem gridP_zero (w : Nat) : gridP w 0 = [] := rfl
@[simp] theorem rowP_len (c k : Nat) : (rowP c k).length = k := by unfold rowP; simp
theorem gridP_len (w : Nat) : ∀ c, (gridP w c).length = c * w
  | 0 => by simp
  | c + 1 => by rw [gridP_next, List.length_append, gridP_len w c, rowP_len, Nat.succ_mul]
/-- The places seen so far that are as told. -/
def pick (p : Nat → Nat → Bool) (w c k : Nat) : List Pl := (gridP w c ++ rowP c k).filter fun q => p q.1 q.2
theorem pick_len (p : Nat → Nat → Bool) {w c k : Nat} (hw : w ≤ 8) (hc : c ≤ 8) (hk : k ≤ 8) : (pick p w c k).length ≤ 72 := by
  unfold pick
  refine Nat.le_trans (List.length_filter_le _ _) ?_
  rw [List.length_append, gridP_len, rowP_len]
  have : c * w ≤ 8 * 8 := Nat.mul_le_mul hc hw
  omega
theorem pick_zero (p : Nat → Nat → Bool) (w : Nat) : pick p w 0 0 = [] := rfl
theorem pick_row (p : Nat → Nat → Bool) (w c : Nat) : pick p w (c + 1) 0 = pick p w c w := by
  unfold pick; rw [gridP_next, rowP_zero, List.append_nil]
theorem pick_yes {p : Nat → Nat → Bool} {w c k : Nat} (h : p c k = true) : pick p w c (k + 1) = pick p w c k ++ [(c, k)] := by
  unfold pick; rw [rowP_next, ← List.append_assoc, List.filter_append (l₂ := [(c, k)])]
  simp [h]
theorem pick_no {p : Nat → Nat → Bool} {w c k : Nat} (h : p c k = false) : pick p w c (k + 1) = pick p w c k := by
  unfold pick; rw [rowP_next, ← List.append_assoc, List.filter_append (l₂ := [(c, k)])]
  simp [h]
def placesD (mine : Bool) (ps : List Pl) : D := .row mine 2 (.v (.agg ⟨placesC ps⟩)) ps.length
/-- All places of a roof that are as told, in order. -/
def allP (r : Roof) (p : Nat → Nat → Bool) : List Pl := pick p r.w.toNat r.h.toNat 0
end Go.V
namespace Go.Proofs.Ytndlknhakdadjaa
open Go.V
theorem l01All_sat (r : Roof) (hr : r.In) (hb : (1 ≤ r.w ∧ r.w ≤ 8) ∧ (1 ≤ r.h ∧ r.h ≤ 8) ∧ r.s ≤ 1) : Sat Try.prog 64 [.ref false (roofD r) 0] (placesD true (allP r fun _ _ => true)) := by
  refine sat_of_wp hMix tOk Try.func64 rfl rfl Try.ntmps64 rfl rfl Try.results64 (by kernel_rfl) ?_
  conv => whnf
  refine loop_rule (α := Nat) (fun c => [(0, .ref false (roofD r) 0), (3, .slc true 2 (28, 0, 0) 0 (pick (fun _ _ => true) r.w.toNat c 0).length), (4, .v (.int .i8 c))]) (fun c => [((28, 0, 0), .v (.agg ⟨placesC (pick (fun _ _ => true) r.w.toNat c 0)⟩))]) (fun c => c ≤ r.h.toNat) (fun c => 8 - c) 0 (Nat.zero_le _)
    (sim_of (rn := [((28, 0, 0), (6, 0, 0))]) rfl ⟨rfl, rfl, rfl, trivial⟩ ⟨⟨_, _, rfl, rfl, rfl⟩, trivial⟩) ?_
  intro c hc
  conv => whnf
  cases h4 : decide ((c : Int) < r.h)
  · have h8 : c = r.h.toNat := by simp at h4; omega
    subst h8
    exact ⟨rfl, _, rfl, rfl⟩
  conv => whnf
  have hch : (c : Int) < r.h := by simpa using h4
  refine loop_rule (α := Nat) (fun k => [(0, .ref false (roofD r) 0), (3, .slc true 2 (28, 0, 0) 0 (pick (fun _ _ => true) r.w.toNat c k).length), (4, .v (.int .i8 c)), (5, .v (.int .i8 k))]) (fun k => [((28, 0, 0), .v (.agg ⟨placesC (pick (fun _ _ => true) r.w.toNat c k)⟩))]) (fun k => k ≤ r.w.toNat) (fun k => 8 - k) 0 (Nat.zero_le _)
    (sim_of (rn := [((28, 0, 0), (28, 0, 0))]) rfl ⟨rfl, rfl, rfl, rfl, trivial⟩ ⟨⟨_, _, rfl, rfl, rfl⟩, trivial⟩) ?_
  intro k hk
  conv => whnf
  cases h5 : decide ((k : Int) < r.w)
  · have hkw : k = r.w.toNat := by simp at h5; omega
    subst hkw
    conv => whnf
    refine ⟨c + 1, by dsimp only; omega, by dsimp only; omega, sim_of (rn := [((28, 0, 0), (28, 0, 0))]) rfl ⟨rfl, ?_, succ8 (by omega), trivial⟩ ⟨⟨_, _, rfl, rfl, ?_⟩, trivial⟩⟩
    · rw [pick_row]; rfl
    · rw [pick_row]; rfl
  conv => whnf
  have hkw : (k : Int) < r.w := by simpa using h5
  have hl := pick_len (fun _ _ => true) (w := r.w.toNat) (c := c) (k := k) (by omega) (by omega) (by omega)
  refine ⟨⟨by show (_ + 1) * 2 ≤ 140737488355328; omega, by omega⟩, ?_⟩
  conv => whnf
  refine ⟨k + 1, by dsimp only; omega, by dsimp only; omega, sim_of (rn := [((28, 0, 0), (28, 1, 0))]) rfl ⟨rfl, ?_, rfl, succ8 (by omega), trivial⟩ ⟨⟨_, _, rfl, rfl, ?_⟩, trivial⟩⟩
  · rw [pick_yes rfl, List.length_append]; rfl
  · rw [pick_yes rfl, placesC_append]; rfl

theorem places_sat {g : Nat} {p : Nat → Nat → Bool} (r : Roof) (hr : r.In) (hb : (1 ≤ r.w ∧ r.w ≤ 8) ∧ (1 ≤ r.h ∧ r.h ≤ 8) ∧ r.s ≤ 1) (hg : ∀ c k : Nat, c < 8 → k < 8 → Sat Try.prog g [placeD c k] (.v (.bool (p c k)))) :
    Sat Try.prog 72 [roofD r, .fn (.func g) [] []] (placesD true (allP r p)) := by
  refine sat_of_wp hMix tOk Try.func72 rfl rfl Try.ntmps72 rfl rfl Try.results72 (by kernel_rfl) ?_
  conv => whnf
  refine loop_rule (α := Nat) (fun c => [(1, .fn (.func g) [] []), (2, .ptr (2, 0, 0) 0), (5, .slc true 2 (28, 0, 0) 0 (pick p r.w.toNat c 0).length), (9, .v (.int .i8 r.h)), (10, .v (.int .i8 c))]) (fun c => [((2, 0, 0), roofD r), ((28, 0, 0), .v (.agg ⟨placesC (pick p r.w.toNat c 0)⟩))]) (fun c => c ≤ r.h.toNat) (fun c => 8 - c) 0 (Nat.zero_le _)
    (sim_of (rn := [((2, 0, 0), (2, 0, 0)), ((28, 0, 0), nilId)]) rfl ⟨rfl, rfl, rfl, rfl, rfl, trivial⟩ ⟨⟨_, _, rfl, rfl, rfl⟩, ⟨_, _, rfl, rfl, rfl⟩, trivial⟩) ?_
  intro c hc
  conv => whnf
  cases h4 : decide ((c : Int) < r.h)
  · have h8 : c = r.h.toNat := by simp at h4; omega
    subst h8
    exact ⟨rfl, _, rfl, rfl⟩
  conv => whnf
  have hch : (c : Int) < r.h := by simpa using h4
  refine loop_rule (α := Nat) (fun k => [(1, .fn (.func g) [] []), (2, .ptr (2, 0, 0) 0), (5, .slc true 2 (28, 0, 0) 0 (pick p r.w.toNat c k).length), (6, .v (.int .i8 c)), (9, .v (.int .i8 r.h)), (10, .v (.int .i8 c)), (14, .v (.int .i8 r.w)), (15, .v (.int .i8 k))]) (fun k => [((2, 0, 0), roofD r), ((28, 0, 0), .v (.agg ⟨placesC (pick p r.w.toNat c k)⟩))]) (fun k => k ≤ r.w.toNat) (fun k => 8 - k) 0 (Nat.zero_le _)
    (sim_of (rn := [((2, 0, 0), (2, 0, 0)), ((28, 0, 0), (28, 0, 0))]) rfl ⟨rfl, rfl, rfl, rfl, rfl, rfl, rfl, rfl, trivial⟩ ⟨⟨_, _, rfl, rfl, rfl⟩, ⟨_, _, rfl, rfl, rfl⟩, trivial⟩) ?_
  intro k hk
  conv => whnf
  cases h5 : decide ((k : Int) < r.w)
  · have hkw : k = r.w.toNat := by simp at h5; omega
    subst hkw
    conv => whnf
    refine ⟨c + 1, by dsimp only; omega, by dsimp only; omega, sim_of (rn := [((2, 0, 0), (2, 0, 0)), ((28, 0, 0), (28, 0, 0))]) rfl ⟨rfl, rfl, ?_, rfl, succ8 (by omega), trivial⟩ ⟨⟨_, _, rfl, rfl, rfl⟩, ⟨_, _, rfl, rfl, ?_⟩, trivial⟩⟩
    · rw [pick_row]; rfl
    · rw [pick_row]; rfl
  conv => whnf
  have hkw : (k : Int) < r.w := by simpa using h5
  refine .inl ⟨_, _, rfl, hg c k (by omega) (by omega), ?_⟩
  conv => whnf
  have hl := pick_len p (w := r.w.toNat) (c := c) (k := k) (by omega) (by omega) (by omega)
  cases hp : p c k
  · conv => whnf
    refine ⟨k + 1, by dsimp only; omega, by dsimp only; omega, sim_of (rn := [((2, 0, 0), (2, 0, 0)), ((28, 0, 0), (28, 0, 0))]) rfl ⟨rfl, rfl, ?_, rfl, rfl, rfl, rfl, succ8 (by omega), trivial⟩ ⟨⟨_, _, rfl, rfl, rfl⟩, ⟨_, _, rfl, rfl, ?_⟩, trivial⟩⟩
    · rw [pick_no hp]; rfl
    · rw [pick_no hp]; rfl
  · conv => whnf
    refine ⟨⟨by show (_ + 1) * 2 ≤ 140737488355328; omega, by omega⟩, ?_⟩
    conv => whnf
    refine ⟨k + 1, by dsimp only; omega, by dsimp only; omega, sim_of (rn := [((2, 0, 0), (2, 0, 0)), ((28, 0, 0), (28, 1, 0))]) rfl ⟨rfl, rfl, ?_, rfl, rfl, rfl, rfl, succ8 (by omega), trivial⟩ ⟨⟨_, _, rfl, rfl, rfl⟩, ⟨_, _, rfl, rfl, ?_⟩, trivial⟩⟩
    · rw [pick_yes hp, List.length_append]; rfl
    · rw [pick_yes hp, placesC_append]; rfl
end Go.Proofs.Ytndlknhakdadjaa
