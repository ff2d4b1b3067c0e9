/- Contracts: valid roofs. -/
import Derived.Test.YtndlknhakdadjaaB1
set_option linter.unusedVariables false
set_option linter.unusedSimpArgs false
namespace Go.V
def cellOk (r : Roof) (c k : Nat) : Bool := decide (r.t c k ≤ 3) && (decide (r.t c k = 0) || (decide ((c : Int) < r.h) && decide ((k : Int) < r.w)))
def okR (r : Roof) : Bool := (decide (r.w ≥ 1) && decide (r.w ≤ 8)) && (decide (r.h ≥ 1) && decide (r.h ≤ 8)) && decide (r.s ≤ 1) && (List.range 8).all fun c => (List.range 8).all fun k => cellOk r c k
end Go.V
namespace Go.Proofs.Ytndlknhakdadjaa
open Go.V

theorem l01Ok_sat (r : Roof) (hr : r.In) : Sat Try.prog 120 [.ref false (roofD r) 0] (.v (.bool (okR r))) := by
  have e3 : IntKind.i64.wrap r.h = r.h := by have := hr.h; exact w64 (by omega) (by omega)
  have e4 : IntKind.i64.wrap r.w = r.w := by have := hr.w; exact w64 (by omega) (by omega)
  refine sat_of_wp hMix tOk Try.func120 rfl rfl Try.ntmps120 rfl rfl Try.results120 (by kernel_rfl) ?_
  conv => whnf
  rw [e4]
  refine ⟨_, _, rfl, l00In_sat _ _ _, ?_⟩
  conv => whnf
  cases h1 : (decide (r.w ≥ 1) && decide (r.w ≤ 8))
  · exact ⟨rfl, _, rfl, by simp only [okR, h1, Bool.false_and]; rfl⟩
  conv => whnf
  rw [e3]
  refine ⟨_, _, rfl, l00In_sat _ _ _, ?_⟩
  conv => whnf
  cases h2 : (decide (r.h ≥ 1) && decide (r.h ≤ 8))
  · exact ⟨rfl, _, rfl, by simp only [okR, h1, h2, Bool.false_and, Bool.and_false]; rfl⟩
  conv => whnf
  cases h3 : (decide (r.s > 1))
  case true => exact ⟨rfl, _, rfl, by
    have : decide (r.s ≤ 1) = false := by simp at h3 ⊢; omega
    simp only [okR, h1, h2, this, Bool.false_and, Bool.and_false]; rfl⟩
  have h3' : decide (r.s ≤ 1) = true := by simp at h3 ⊢; omega
  conv => whnf
  refine loop_rule (α := Nat) (fun c => [(0, .ref false (roofD r) 0), (3, .v (.int .i8 c))]) (fun _ => []) (fun c => c ≤ 8 ∧ ∀ c', c' < c → ∀ k, k < 8 → cellOk r c' k = true) (fun c => 8 - c) 0 ⟨by omega, by omega⟩ (sim_of (rn := []) rfl ⟨rfl, rfl, trivial⟩ trivial) ?_
  rintro c ⟨hc, hall⟩
  conv => whnf
  cases h4 : decide ((c : Int) < 8)
  · conv => whnf
    refine ⟨rfl, _, rfl, ?_⟩
    have hc8 : c = 8 := by simp at h4; omega
    subst hc8
    have : (List.range 8).all (fun c => (List.range 8).all fun k => cellOk r c k) = true := by
      simp only [List.all_eq_true, List.mem_range]
      exact hall
    simp only [okR, h1, h2, h3', this, Bool.and_self]; rfl
  conv => whnf
  have hc8 : c < 8 := by simp at h4; omega
  refine loop_rule (α := Nat) (fun k => [(0, .ref false (roofD r) 0), (3, .v (.int .i8 c)), (4, .v (.int .i8 k))]) (fun _ => []) (fun k => k ≤ 8 ∧ ∀ k', k' < k → cellOk r c k' = true) (fun k => 8 - k) 0 ⟨by omega, by omega⟩ (sim_of (rn := []) rfl ⟨rfl, rfl, rfl, trivial⟩ trivial) ?_
  rintro k ⟨hk, hrow⟩
  conv => whnf
  cases h5 : decide ((k : Int) < 8)
  · conv => whnf
    refine ⟨c + 1, by dsimp only; omega, ⟨by omega, ?_⟩, sim_of (rn := []) rfl ⟨rfl, ?_, trivial⟩ trivial⟩
    · intro c' hc' k' hk'
      by_cases h : c' = c
      · subst h; exact hrow k' (by simp at h5; omega)
      · exact hall c' (by omega) k' hk'
    · show some _ = some _
      congr 1
      exact vint (by rw [w8 (by omega) (by omega)]; omega)
  conv => whnf
  have hk8 : k < 8 := by simp at h5; omega
  refine ⟨⟨by omega, by omega⟩, ?_⟩
  conv => whnf
  refine ⟨⟨by omega, by omega⟩, ?_⟩
  conv => whnf
  have ht := hr.t c k
  have e5 : IntKind.i64.wrap (r.t c k) = r.t c k := w64 (by omega) (by omega)
  have g1 : nth (roofC r) (0 + 3 + (c : Int).toNat * 8 + (k : Int).toNat * 1) = some (.int .u8 (r.t c k)) := roof_get (by omega) hc8 hk8
  refine optK_of g1 ?_
  conv => whnf
  rw [e5]
  refine ⟨_, _, rfl, l01Kind_sat _, ?_⟩
  conv => whnf
  have hno : ∀ b, cellOk r c k = b → (b = false → okR r = false) ∧ (b = true → ∀ k', k' < k + 1 → cellOk r c k' = true) := by
    rintro b rfl
    refine ⟨fun h => ?_, fun h k' hk' => ?_⟩
    · have : (List.range 8).all (fun c => (List.range 8).all fun k => cellOk r c k) = false := by
        rw [List.all_eq_false]
        refine ⟨c, by simpa using hc8, ?_⟩
        rw [Bool.not_eq_true, List.all_eq_false]
        exact ⟨k, by simpa using hk8, by simp [h]⟩
      simp only [okR, this, Bool.and_false]
    · by_cases hkk : k' = k
      · subst hkk; exact h
      · exact hrow k' (by omega)
  have hk3 : decide (r.t c k ≥ 0) = true := by simp; omega
  cases h6 : (decide (r.t c k ≥ 0) && decide (r.t c k ≤ 3))
  · have hcell : cellOk r c k = false := by
      rw [hk3, Bool.true_and] at h6
      simp only [cellOk, h6, Bool.false_and]
    conv => whnf
    refine ⟨rfl, _, rfl, ?_⟩
    rw [(hno _ hcell).1 rfl]; rfl
  conv => whnf
  refine ⟨_, _, rfl, l01Is_sat r hr c k ⟨by omega, by omega⟩ ⟨by omega, by omega⟩, ?_⟩
  conv => whnf
  have hk3' : decide (r.t c k ≤ 3) = true := by rw [hk3, Bool.true_and] at h6; exact h6
  have hin : (decide ((c : Int) ≥ 0) && decide ((c : Int) ≤ r.h - 1) && (decide ((k : Int) ≥ 0) && decide ((k : Int) ≤ r.w - 1))) = (decide ((c : Int) < r.h) && decide ((k : Int) < r.w)) := by
    rw [Bool.eq_iff_iff]; simp; omega
  rw [hin]
  have hkk : some (D.v (Value.int .i8 ((k + 1 : Nat) : Int))) = some (D.v (.int .i8 (IntKind.i8.wrap (k + 1)))) := by
    congr 1; exact vint (by rw [w8 (by omega) (by omega)]; omega)
  cases h7 : (decide ((c : Int) < r.h) && decide ((k : Int) < r.w))
  · conv => whnf
    have g2 : nth (roofC r) (0 + 3 + (c : Int).toNat * 8 + (k : Int).toNat * 1) = some (.int .u8 (r.t c k)) := roof_get (by omega) hc8 hk8
    refine ⟨⟨by omega, by omega⟩, ?_⟩
    conv => whnf
    refine ⟨⟨by omega, by omega⟩, ?_⟩
    conv => whnf
    refine optK_of g2 ?_
    conv => whnf
    cases h8 : (r.t c k != 0)
    · conv => whnf
      have hcell : cellOk r c k = true := by
        have : decide (r.t c k = 0) = true := by simpa using h8
        simp only [cellOk, hk3', this, Bool.true_or, Bool.and_self]
      exact ⟨k + 1, by dsimp only; omega, ⟨by omega, (hno _ hcell).2 rfl⟩, sim_of (rn := []) rfl ⟨rfl, rfl, hkk, trivial⟩ trivial⟩
    · conv => whnf
      have hcell : cellOk r c k = false := by
        have : decide (r.t c k = 0) = false := by simpa using h8
        simp only [cellOk, h7, this, Bool.or_self, Bool.and_false]
      refine ⟨rfl, _, rfl, ?_⟩
      rw [(hno _ hcell).1 rfl]; rfl
  · conv => whnf
    have hcell : cellOk r c k = true := by
      simp only [cellOk, h7, hk3', Bool.or_true, Bool.and_self]
    exact ⟨k + 1, by dsimp only; omega, ⟨by omega, (hno _ hcell).2 rfl⟩, sim_of (rn := []) rfl ⟨rfl, rfl, hkk, trivial⟩ trivial⟩
end Go.Proofs.Ytndlknhakdadjaa
