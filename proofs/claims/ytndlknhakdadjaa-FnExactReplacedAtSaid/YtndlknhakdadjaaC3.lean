/- Contracts: valid roofs and ages, both sides. -/
import Derived.Test.YtndlknhakdadjaaB2
import Derived.Test.YtndlknhakdadjaaC2
set_option linter.unusedVariables false
set_option linter.unusedSimpArgs false
namespace Go.V
def all8 (p : Nat → Nat → Bool) : Bool := (List.range 8).all fun c => (List.range 8).all fun k => p c k
theorem all8_true {p : Nat → Nat → Bool} (h : ∀ c, c < 8 → ∀ k, k < 8 → p c k = true) : all8 p = true := by
  simp only [all8, List.all_eq_true, List.mem_range]
  exact h
theorem all8_false {p : Nat → Nat → Bool} {c k : Nat} (hc : c < 8) (hk : k < 8) (h : p c k = false) : all8 p = false := by
  unfold all8
  rw [List.all_eq_false]
  refine ⟨c, by simpa using hc, ?_⟩
  rw [Bool.not_eq_true, List.all_eq_false]
  exact ⟨k, by simpa using hk, by simp [h]⟩
theorem all8_iff {p : Nat → Nat → Bool} : all8 p = true ↔ ∀ c, c < 8 → ∀ k, k < 8 → p c k = true := by
  simp only [all8, List.all_eq_true, List.mem_range]
theorem okR_def (r : Roof) : okR r = (((decide (r.w ≥ 1) && decide (r.w ≤ 8)) && (decide (r.h ≥ 1) && decide (r.h ≤ 8)) && decide (r.s ≤ 1)) && all8 (cellOk r)) := rfl
/-- Rows and cells that have been looked at. -/
def Upto (p : Nat → Nat → Bool) (c : Nat) : Prop := ∀ c', c' < c → ∀ k, k < 8 → p c' k = true
def UptoK (p : Nat → Bool) (k : Nat) : Prop := ∀ k', k' < k → p k' = true
theorem Upto.zero (p : Nat → Nat → Bool) : Upto p 0 := fun c' h => by omega
theorem UptoK.zero (p : Nat → Bool) : UptoK p 0 := fun c' h => by omega
theorem Upto.next {p : Nat → Nat → Bool} {c : Nat} (h : Upto p c) (hr : UptoK (p c) 8) : Upto p (c + 1) := by
  intro c' hc k hk
  by_cases e : c' = c
  · subst e; exact hr k hk
  · exact h c' (by omega) k hk
theorem UptoK.next {p : Nat → Bool} {k : Nat} (h : UptoK p k) (hr : p k = true) : UptoK p (k + 1) := by
  intro k' hk
  by_cases e : k' = k
  · subst e; exact hr
  · exact h k' (by omega)
theorem Upto.all {p : Nat → Nat → Bool} (h : Upto p 8) : all8 p = true := all8_true h
theorem succ64 {n : Nat} (h : n < 4294967296) : some (D.v (Value.int .i64 ((n + 1 : Nat) : Int))) = some (D.v (.int .i64 (IntKind.i64.wrap (n + 1)))) := by
  congr 1; exact vint (by rw [w64 (by omega) (by omega)]; omega)
theorem succ8 {n : Nat} (h : n < 127) : some (D.v (Value.int .i8 ((n + 1 : Nat) : Int))) = some (D.v (.int .i8 (IntKind.i8.wrap (n + 1)))) := by
  congr 1; exact vint (by rw [w8 (by omega) (by omega)]; omega)
/-- A row, rowStored in a new block and read again. -/
theorem rowStored {t : Nat → Nat → Int} {c o : Nat} {zs : List Value} (hz : zs.length = 8) (ho : o = c * 8) (hc : c < 8) : ((splice zs 0 (((grid t).drop o).take 8)).drop 0).take 8 = row8 (t c) := by
  rw [grid_row ho hc, splice_all (by rw [hz]; simp), take_drop0 (by simp)]
end Go.V
namespace Go.Proofs.Ytndlknhakdadjaa
open Go.V

theorem has_sat (r : Roof) (hr : r.In) (c k : Int) (hw : 1 ≤ r.w) (hh : 1 ≤ r.h) :
    Sat Try.prog 202 [roofD r, placeD c k] (.v (.bool ((decide (0 ≤ c) && decide (c ≤ r.h - 1)) && (decide (0 ≤ k) && decide (k ≤ r.w - 1))))) := by
  have e5 : IntKind.i8.wrap (r.h - 1) = r.h - 1 := by have := hr.h; exact w8 (by omega) (by omega)
  have e6 : IntKind.i8.wrap (r.w - 1) = r.w - 1 := by have := hr.w; exact w8 (by omega) (by omega)
  refine sat_of_wp hMix tOk Try.func202 rfl rfl Try.ntmps202 rfl rfl Try.results202 (by kernel_rfl) ?_
  conv => whnf
  rw [e5]
  refine ⟨_, _, rfl, within8_sat _ _ _, ?_⟩
  conv => whnf
  cases h1 : (decide (0 ≤ c) && decide (c ≤ r.h - 1))
  · exact ⟨rfl, _, rfl, rfl⟩
  · conv => whnf
    rw [e6]
    refine ⟨_, _, rfl, within8_sat _ _ _, ?_⟩
    conv => whnf
    cases h2 : (decide (0 ≤ k) && decide (k ≤ r.w - 1)) <;> exact ⟨rfl, _, rfl, rfl⟩

theorem validRoof_sat (r : Roof) (hr : r.In) : Sat Try.prog 92 [roofD r] (.v (.bool (okR r))) := by
  have e3 : IntKind.i64.wrap r.h = r.h := by have := hr.h; exact w64 (by omega) (by omega)
  have e4 : IntKind.i64.wrap r.w = r.w := by have := hr.w; exact w64 (by omega) (by omega)
  refine sat_of_wp hMix tOk Try.func92 rfl rfl Try.ntmps92 rfl rfl Try.results92 (by kernel_rfl) ?_
  conv => whnf
  refine ⟨_, _, rfl, within8_sat _ _ _, ?_⟩
  conv => whnf
  cases h1 : (decide (1 ≤ r.w) && decide (r.w ≤ 8))
  · refine ⟨rfl, _, rfl, ?_⟩
    have : (decide (r.w ≥ 1) && decide (r.w ≤ 8)) = false := h1
    simp only [okR_def, this, Bool.false_and]; rfl
  have h1' : (decide (r.w ≥ 1) && decide (r.w ≤ 8)) = true := h1
  conv => whnf
  refine ⟨_, _, rfl, within8_sat _ _ _, ?_⟩
  conv => whnf
  cases h2 : (decide (1 ≤ r.h) && decide (r.h ≤ 8))
  · refine ⟨rfl, _, rfl, ?_⟩
    have : (decide (r.h ≥ 1) && decide (r.h ≤ 8)) = false := h2
    simp only [okR_def, this, Bool.false_and, Bool.and_false]; rfl
  have h2' : (decide (r.h ≥ 1) && decide (r.h ≤ 8)) = true := h2
  conv => whnf
  cases h3 : (decide (r.s > 1))
  case true =>
    refine ⟨rfl, _, rfl, ?_⟩
    have : decide (r.s ≤ 1) = false := by simp at h3 ⊢; omega
    simp only [okR_def, this, Bool.false_and, Bool.and_false]; rfl
  have h3' : decide (r.s ≤ 1) = true := by simp at h3 ⊢; omega
  have hok : okR r = all8 (cellOk r) := by simp only [okR_def, h1', h2', h3', Bool.true_and]
  rw [hok]
  conv => whnf
  refine ⟨by simp [roofC], ?_⟩
  conv => whnf
  refine loop_rule (α := Nat) (fun i => [(1, .ptr (1, 0, 0) 0), (23, gridD r.t), (24, .v (.int .i64 i))]) (fun i => [((1, 0, 0), roofD r)]) (fun i => i ≤ 8 ∧ Upto (cellOk r) i) (fun i => 8 - i) 0 ⟨Nat.zero_le _, Upto.zero _⟩
    (sim_of (rn := [((1, 0, 0), (1, 0, 0))]) rfl ⟨rfl, ?_, rfl, trivial⟩ ⟨⟨_, _, rfl, rfl, rfl⟩, trivial⟩) ?_
  · show some (D.v (.agg ⟨grid r.t⟩)) = some (D.v (.agg ⟨((roofC r).drop (0 + 3)).take 64⟩))
    rw [roof_grid]
  rintro i ⟨hi, hall⟩
  conv => whnf
  cases h4 : decide ((i : Int) < 8)
  · have h8 : i = 8 := by simp at h4; omega
    subst h8
    conv => whnf
    refine ⟨rfl, _, rfl, ?_⟩
    rw [hall.all]; rfl
  conv => whnf
  have h8 : i < 8 := by simp at h4; omega
  refine ⟨⟨by omega, by omega⟩, ?_⟩
  conv => whnf
  refine ⟨by simp; omega, ?_⟩
  conv => whnf
  refine ⟨by simp; omega, ?_⟩
  conv => whnf
  refine ⟨by simp; omega, ?_⟩
  conv => whnf
  refine ⟨by simp [splice]; omega, ?_⟩
  conv => whnf
  refine loop_rule (α := Nat) (fun k => [(1, .ptr (1, 0, 0) 0), (3, .v (.int .i64 i)), (23, gridD r.t), (24, .v (.int .i64 i)), (28, row8D (r.t i)), (29, .v (.int .i64 k))]) (fun _ => [((1, 0, 0), roofD r)]) (fun k => k ≤ 8 ∧ UptoK (cellOk r i) k) (fun k => 8 - k) 0 ⟨Nat.zero_le _, UptoK.zero _⟩
    (sim_of (rn := [((1, 0, 0), (1, 0, 0))]) rfl ⟨rfl, rfl, rfl, rfl, ?_, rfl, trivial⟩ ⟨⟨_, _, rfl, rfl, rfl⟩, trivial⟩) ?_
  · show some (D.v (.agg ⟨row8 (r.t i)⟩)) = some (D.v (.agg ⟨((splice (List.replicate 8 (.int .u8 0)) 0 (((grid r.t).drop ((i : Int).toNat * 8)).take 8)).drop 0).take 8⟩))
    rw [rowStored (by simp) (by omega) h8]
  rintro k ⟨hk, hrow⟩
  conv => whnf
  cases h5 : decide ((k : Int) < 8)
  · have hk8 : k = 8 := by simp at h5; omega
    subst hk8
    conv => whnf
    exact ⟨i + 1, by dsimp only; omega, ⟨by omega, hall.next hrow⟩, sim_of (rn := [((1, 0, 0), (1, 0, 0))]) rfl ⟨rfl, rfl, succ64 (by omega), trivial⟩ ⟨⟨_, _, rfl, rfl, rfl⟩, trivial⟩⟩
  conv => whnf
  have hk8 : k < 8 := by simp at h5; omega
  refine ⟨⟨by omega, by omega⟩, ?_⟩
  conv => whnf
  refine optK_of (row8_get (k := k) (by simp) hk8) ?_
  conv => whnf
  have bad : cellOk r i k = false → all8 (cellOk r) = false := all8_false h8 hk8
  have ht := hr.t i k
  cases h6 : decide (r.t i k > 3)
  case true =>
    conv => whnf
    refine ⟨rfl, _, rfl, ?_⟩
    have : decide (r.t i k ≤ 3) = false := by simp at h6 ⊢; omega
    rw [bad (by simp only [cellOk, this, Bool.false_and])]; rfl
  have h6' : decide (r.t i k ≤ 3) = true := by simp at h6 ⊢; omega
  conv => whnf
  have fin : cellOk r i k = true → ∃ y, 8 - y < 8 - k ∧ (y ≤ 8 ∧ UptoK (cellOk r i) y) ∧ y = k + 1 := fun h => ⟨k + 1, by omega, ⟨by omega, hrow.next h⟩, rfl⟩
  cases h7 : (r.t i k != 0)
  · conv => whnf
    obtain ⟨y, g1, g2, rfl⟩ := fin (by simp at h7; simp [cellOk, h7])
    exact ⟨_, g1, g2, sim_of (rn := [((1, 0, 0), (1, 0, 0))]) rfl ⟨rfl, rfl, rfl, rfl, rfl, succ64 (by omega), trivial⟩ ⟨⟨_, _, rfl, rfl, rfl⟩, trivial⟩⟩
  conv => whnf
  rw [e3]
  have h7' : decide (r.t i k = 0) = false := by simpa using h7
  cases h9 : decide ((i : Int) ≥ r.h)
  · conv => whnf
    rw [e4]
    cases h10 : decide ((k : Int) ≥ r.w)
    · conv => whnf
      obtain ⟨y, g1, g2, rfl⟩ := fin (by simp at h9 h10 h6'; simp [cellOk, h6']; right; omega)
      exact ⟨_, g1, g2, sim_of (rn := [((1, 0, 0), (1, 0, 0))]) rfl ⟨rfl, rfl, rfl, rfl, rfl, succ64 (by omega), trivial⟩ ⟨⟨_, _, rfl, rfl, rfl⟩, trivial⟩⟩
    · conv => whnf
      refine ⟨rfl, _, rfl, ?_⟩
      have : decide ((k : Int) < r.w) = false := by simp at h10 ⊢; omega
      rw [bad (by simp only [cellOk, this, h7', Bool.and_false, Bool.or_self])]; rfl
  · conv => whnf
    refine ⟨rfl, _, rfl, ?_⟩
    have : decide ((i : Int) < r.h) = false := by simp at h9 ⊢; omega
    rw [bad (by simp only [cellOk, this, h7', Bool.false_and, Bool.and_false, Bool.or_self])]; rfl
end Go.Proofs.Ytndlknhakdadjaa
