/- Contracts: valid ages, both sides. -/
import Derived.Test.YtndlknhakdadjaaC3
set_option linter.unusedVariables false
set_option linter.unusedSimpArgs false
namespace Go.V
def inR (r : Roof) (c k : Nat) : Bool := decide ((c : Int) < r.h) && decide ((k : Int) < r.w)
def ageOk (r : Roof) (a : Nat → Nat → Int) (c k : Nat) : Bool := decide (a c k ≤ 100) && (inR r c k || decide (a c k = 0))
def okA (r : Roof) (a : Nat → Nat → Int) : Bool := okR r && all8 (ageOk r a)
theorem okR_bounds {r : Roof} (h : okR r = true) : (1 ≤ r.w ∧ r.w ≤ 8) ∧ (1 ≤ r.h ∧ r.h ≤ 8) ∧ r.s ≤ 1 := by
  simp only [okR_def, Bool.and_eq_true, decide_eq_true_eq] at h
  omega
theorem grid_at {t : Nat → Nat → Int} {c k o : Nat} (ho : o = c * 8 + k) (hc : c < 8) (hk : k < 8) : nth (grid t) o = some (.int .u8 (t c k)) := by
  subst ho; exact grid_get hc hk
end Go.V
namespace Go.Proofs.Ytndlknhakdadjaa
open Go.V

theorem l07Ages_sat (r : Roof) (hr : r.In) (a : Nat → Nat → Int) (ha : AgesIn a) : Sat Try.prog 129 [.ref false (roofD r) 0, .ref false (gridD a) 0] (.v (.bool (okA r a))) := by
  refine sat_of_wp hMix tOk Try.func129 rfl rfl Try.ntmps129 rfl rfl Try.results129 (by kernel_rfl) ?_
  conv => whnf
  refine ⟨_, _, rfl, l01Ok_sat r hr, ?_⟩
  conv => whnf
  cases h1 : okR r
  · refine ⟨rfl, _, rfl, ?_⟩
    simp only [okA, h1, Bool.false_and]; rfl
  have hok : okA r a = all8 (ageOk r a) := by simp only [okA, h1, Bool.true_and]
  rw [hok]
  conv => whnf
  refine loop_rule (α := Nat) (fun c => [(0, .ref false (roofD r) 0), (1, .ref false (gridD a) 0), (5, .v (.int .i8 c))]) (fun _ => []) (fun c => c ≤ 8 ∧ Upto (ageOk r a) c) (fun c => 8 - c) 0 ⟨Nat.zero_le _, Upto.zero _⟩
    (sim_of (rn := []) rfl ⟨rfl, rfl, rfl, trivial⟩ trivial) ?_
  rintro c ⟨hc, hall⟩
  conv => whnf
  cases h4 : decide ((c : Int) < 8)
  · have h8 : c = 8 := by simp at h4; omega
    subst h8
    conv => whnf
    refine ⟨rfl, _, rfl, ?_⟩
    rw [hall.all]; rfl
  conv => whnf
  have h8 : c < 8 := by simp at h4; omega
  refine loop_rule (α := Nat) (fun k => [(0, .ref false (roofD r) 0), (1, .ref false (gridD a) 0), (5, .v (.int .i8 c)), (6, .v (.int .i8 k))]) (fun _ => []) (fun k => k ≤ 8 ∧ UptoK (ageOk r a c) k) (fun k => 8 - k) 0 ⟨Nat.zero_le _, UptoK.zero _⟩
    (sim_of (rn := []) rfl ⟨rfl, rfl, rfl, rfl, trivial⟩ trivial) ?_
  rintro k ⟨hk, hrow⟩
  conv => whnf
  cases h5 : decide ((k : Int) < 8)
  · have hk8 : k = 8 := by simp at h5; omega
    subst hk8
    conv => whnf
    exact ⟨c + 1, by dsimp only; omega, ⟨by omega, hall.next hrow⟩, sim_of (rn := []) rfl ⟨rfl, rfl, succ8 (by omega), trivial⟩ trivial⟩
  conv => whnf
  have hk8 : k < 8 := by simp at h5; omega
  have bad : ageOk r a c k = false → all8 (ageOk r a) = false := all8_false h8 hk8
  have fin : ageOk r a c k = true → ∃ y, 8 - y < 8 - k ∧ (y ≤ 8 ∧ UptoK (ageOk r a c) y) ∧ y = k + 1 := fun h => ⟨k + 1, by omega, ⟨by omega, hrow.next h⟩, rfl⟩
  refine ⟨⟨by omega, by omega⟩, ?_⟩
  conv => whnf
  refine ⟨⟨by omega, by omega⟩, ?_⟩
  conv => whnf
  refine optK_of (grid_at (c := c) (k := k) (by simp) h8 hk8) ?_
  conv => whnf
  have ht := ha.t c k
  cases h6 : decide (a c k > 100)
  case true =>
    conv => whnf
    refine ⟨rfl, _, rfl, ?_⟩
    have : decide (a c k ≤ 100) = false := by simp at h6 ⊢; omega
    rw [bad (by simp only [ageOk, this, Bool.false_and])]; rfl
  have h6' : decide (a c k ≤ 100) = true := by simp at h6 ⊢; omega
  conv => whnf
  refine ⟨_, _, rfl, l01Is_sat r hr c k ⟨by omega, by omega⟩ ⟨by omega, by omega⟩, ?_⟩
  conv => whnf
  have hin : (decide ((c : Int) ≥ 0) && decide ((c : Int) ≤ r.h - 1) && (decide ((k : Int) ≥ 0) && decide ((k : Int) ≤ r.w - 1))) = inR r c k := by
    rw [Bool.eq_iff_iff]; simp [inR]; omega
  rw [hin]
  cases h7 : inR r c k
  · conv => whnf
    refine ⟨⟨by omega, by omega⟩, ?_⟩
    conv => whnf
    refine ⟨⟨by omega, by omega⟩, ?_⟩
    conv => whnf
    refine optK_of (grid_at (c := c) (k := k) (by simp) h8 hk8) ?_
    conv => whnf
    cases h8' : (a c k != 0)
    · conv => whnf
      obtain ⟨y, g1, g2, rfl⟩ := fin (by simp at h8'; simp [ageOk, h8'])
      exact ⟨_, g1, g2, sim_of (rn := []) rfl ⟨rfl, rfl, rfl, succ8 (by omega), trivial⟩ trivial⟩
    · conv => whnf
      refine ⟨rfl, _, rfl, ?_⟩
      have : decide (a c k = 0) = false := by simpa using h8'
      rw [bad (by simp only [ageOk, this, h7, Bool.or_self, Bool.and_false])]; rfl
  · conv => whnf
    obtain ⟨y, g1, g2, rfl⟩ := fin (by simp only [ageOk, h6', h7, Bool.true_or, Bool.and_self])
    exact ⟨_, g1, g2, sim_of (rn := []) rfl ⟨rfl, rfl, rfl, succ8 (by omega), trivial⟩ trivial⟩

theorem validAges_sat (r : Roof) (hr : r.In) (a : Nat → Nat → Int) (ha : AgesIn a) : Sat Try.prog 181 [roofD r, gridD a] (.v (.bool (okA r a))) := by
  refine sat_of_wp hMix tOk Try.func181 rfl rfl Try.ntmps181 rfl rfl Try.results181 (by kernel_rfl) ?_
  conv => whnf
  refine ⟨by simp [roofC], ?_⟩
  conv => whnf
  have e0 : ((roofC r).drop 0).take 67 = roofC r := take_drop0 (by simp [roofC])
  have e0' : Sat Try.prog 92 [D.v (.agg ⟨((roofC r).drop 0).take 67⟩)] (.v (.bool (okR r))) := by rw [e0]; exact validRoof_sat r hr
  refine ⟨_, _, rfl, e0', ?_⟩
  conv => whnf
  cases h1 : okR r
  · refine ⟨rfl, _, rfl, ?_⟩
    simp only [okA, h1, Bool.false_and]; rfl
  have hok : okA r a = all8 (ageOk r a) := by simp only [okA, h1, Bool.true_and]
  rw [hok]
  have hb := okR_bounds h1
  conv => whnf
  refine ⟨by simp [gridD], ?_⟩
  conv => whnf
  refine loop_rule (α := Nat) (fun i => [(2, .ptr (2, 0, 0) 0), (12, gridD a), (13, .v (.int .i64 i))]) (fun i => [((2, 0, 0), roofD r)]) (fun i => i ≤ 8 ∧ Upto (ageOk r a) i) (fun i => 8 - i) 0 ⟨Nat.zero_le _, Upto.zero _⟩
    (sim_of (rn := [((2, 0, 0), (2, 0, 0))]) rfl ⟨rfl, ?_, rfl, trivial⟩ ⟨⟨_, _, rfl, rfl, rfl⟩, trivial⟩) ?_
  · show some (D.v (.agg ⟨grid a⟩)) = some (D.v (.agg ⟨((grid a).drop 0).take 64⟩))
    rw [take_drop0 (by simp)]
  rintro i ⟨hi, hall⟩
  conv => whnf
  cases h4 : decide ((i : Int) < 8)
  · have h8 : i = 8 := by simp at h4; omega
    subst h8
    conv => whnf
    refine ⟨rfl, _, rfl, ?_⟩
    rw [hall.all]; rfl
  conv => whnf
  have h8 : i < 8 := by simp at h4; omega
  refine ⟨⟨by omega, by omega⟩, ?_⟩
  conv => whnf
  refine ⟨by simp; omega, ?_⟩
  conv => whnf
  refine ⟨by simp; omega, ?_⟩
  conv => whnf
  refine ⟨by simp; omega, ?_⟩
  conv => whnf
  refine ⟨by simp [splice]; omega, ?_⟩
  conv => whnf
  refine loop_rule (α := Nat) (fun k => [(2, .ptr (2, 0, 0) 0), (5, .v (.int .i64 i)), (12, gridD a), (13, .v (.int .i64 i)), (17, row8D (a i)), (18, .v (.int .i64 k))]) (fun _ => [((2, 0, 0), roofD r)]) (fun k => k ≤ 8 ∧ UptoK (ageOk r a i) k) (fun k => 8 - k) 0 ⟨Nat.zero_le _, UptoK.zero _⟩
    (sim_of (rn := [((2, 0, 0), (2, 0, 0))]) rfl ⟨rfl, rfl, rfl, rfl, ?_, rfl, trivial⟩ ⟨⟨_, _, rfl, rfl, rfl⟩, trivial⟩) ?_
  · show some (D.v (.agg ⟨row8 (a i)⟩)) = some (D.v (.agg ⟨((splice (List.replicate 8 (.int .u8 0)) 0 (((grid a).drop ((i : Int).toNat * 8)).take 8)).drop 0).take 8⟩))
    rw [rowStored (by simp) (by omega) h8]
  rintro k ⟨hk, hrow⟩
  conv => whnf
  cases h5 : decide ((k : Int) < 8)
  · have hk8 : k = 8 := by simp at h5; omega
    subst hk8
    conv => whnf
    exact ⟨i + 1, by dsimp only; omega, ⟨by omega, hall.next hrow⟩, sim_of (rn := [((2, 0, 0), (2, 0, 0))]) rfl ⟨rfl, rfl, succ64 (by omega), trivial⟩ ⟨⟨_, _, rfl, rfl, rfl⟩, trivial⟩⟩
  conv => whnf
  have hk8 : k < 8 := by simp at h5; omega
  refine ⟨⟨by omega, by omega⟩, ?_⟩
  conv => whnf
  refine optK_of (row8_get (k := k) (by simp) hk8) ?_
  conv => whnf
  have bad : ageOk r a i k = false → all8 (ageOk r a) = false := all8_false h8 hk8
  have fin : ageOk r a i k = true → ∃ y, 8 - y < 8 - k ∧ (y ≤ 8 ∧ UptoK (ageOk r a i) y) ∧ y = k + 1 := fun h => ⟨k + 1, by omega, ⟨by omega, hrow.next h⟩, rfl⟩
  have ht := ha.t i k
  cases h6 : decide (a i k > 100)
  case true =>
    conv => whnf
    refine ⟨rfl, _, rfl, ?_⟩
    have : decide (a i k ≤ 100) = false := by simp at h6 ⊢; omega
    rw [bad (by simp only [ageOk, this, Bool.false_and])]; rfl
  have h6' : decide (a i k ≤ 100) = true := by simp at h6 ⊢; omega
  conv => whnf
  cases h7 : (a i k != 0)
  · conv => whnf
    obtain ⟨y, g1, g2, rfl⟩ := fin (by simp at h7; simp [ageOk, h7])
    exact ⟨_, g1, g2, sim_of (rn := [((2, 0, 0), (2, 0, 0))]) rfl ⟨rfl, rfl, rfl, rfl, rfl, succ64 (by omega), trivial⟩ ⟨⟨_, _, rfl, rfl, rfl⟩, trivial⟩⟩
  have h7' : decide (a i k = 0) = false := by simpa using h7
  conv => whnf
  refine ⟨by simp [roofC], ?_⟩
  conv => whnf
  have c1 : IntKind.i8.wrap (i : Int) = i := w8 (by omega) (by omega)
  have c2 : IntKind.i8.wrap (k : Int) = k := w8 (by omega) (by omega)
  have hs : Sat Try.prog 202 [D.v (.agg ⟨((roofC r).drop 0).take 67⟩), .v (.agg ⟨[.int .i8 (IntKind.i8.wrap (i : Int)), .int .i8 (IntKind.i8.wrap (k : Int))]⟩)] (.v (.bool (inR r i k))) := by
    rw [e0, c1, c2]
    have := has_sat r hr i k hb.1.1 hb.2.1.1
    have hin : (decide (0 ≤ (i : Int)) && decide ((i : Int) ≤ r.h - 1) && (decide (0 ≤ (k : Int)) && decide ((k : Int) ≤ r.w - 1))) = inR r i k := by
      rw [Bool.eq_iff_iff]; simp [inR]; omega
    rw [hin] at this
    exact this
  refine ⟨_, _, rfl, hs, ?_⟩
  conv => whnf
  cases h9 : inR r i k
  · conv => whnf
    refine ⟨rfl, _, rfl, ?_⟩
    rw [bad (by simp only [ageOk, h7', h9, Bool.or_self, Bool.and_false])]; rfl
  · conv => whnf
    obtain ⟨y, g1, g2, rfl⟩ := fin (by simp only [ageOk, h6', h9, Bool.true_or, Bool.and_self])
    exact ⟨_, g1, g2, sim_of (rn := [((2, 0, 0), (2, 0, 0))]) rfl ⟨rfl, rfl, rfl, rfl, rfl, succ64 (by omega), trivial⟩ ⟨⟨_, _, rfl, rfl, rfl⟩, trivial⟩⟩

end Go.Proofs.Ytndlknhakdadjaa
