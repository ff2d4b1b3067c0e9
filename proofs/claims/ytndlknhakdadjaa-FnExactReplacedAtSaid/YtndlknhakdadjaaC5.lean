/- Contracts: valid colours, both sides. -/
import Derived.Test.YtndlknhakdadjaaC4
set_option linter.unusedVariables false
set_option linter.unusedSimpArgs false
namespace Go.V
def shrI (x w : Int) : Int := x.fdiv (2 ^ (min w.toNat IntKind.i64.bits))
def colOk (r : Roof) (f : Nat → Int) (i : Nat) : Bool := (shrI (f i) r.w == 0) && (decide ((i : Int) < r.h) || (f i == 0))
def okC (r : Roof) (f : Nat → Int) : Bool := okR r && (List.range 8).all (colOk r f)
theorem UptoK.all {p : Nat → Bool} (h : UptoK p 8) : (List.range 8).all p = true := by
  simp only [List.all_eq_true, List.mem_range]
  exact h
theorem allK_false {p : Nat → Bool} {i : Nat} (hi : i < 8) (h : p i = false) : (List.range 8).all p = false := by
  rw [List.all_eq_false]
  exact ⟨i, by simpa using hi, by simp [h]⟩
end Go.V
namespace Go.Proofs.Ytndlknhakdadjaa
open Go.V

theorem l07Colours_sat (r : Roof) (hr : r.In) (f : Nat → Int) (hf : RowIn f) : Sat Try.prog 50 [.ref false (roofD r) 0, .ref false (row8D f) 0] (.v (.bool (okC r f))) := by
  refine sat_of_wp hMix tOk Try.func50 rfl rfl Try.ntmps50 rfl rfl Try.results50 (by kernel_rfl) ?_
  conv => whnf
  refine ⟨_, _, rfl, l01Ok_sat r hr, ?_⟩
  conv => whnf
  cases h1 : okR r
  · refine ⟨rfl, _, rfl, ?_⟩
    simp only [okC, h1, Bool.false_and]; rfl
  have hok : okC r f = (List.range 8).all (colOk r f) := by simp only [okC, h1, Bool.true_and]
  rw [hok]
  have hb := okR_bounds h1
  have e3 : IntKind.i64.wrap r.h = r.h := w64 (by omega) (by omega)
  have e4 : IntKind.u64.wrap r.w = r.w := wu64 (by omega) (by omega)
  conv => whnf
  refine loop_rule (α := Nat) (fun c => [(0, .ref false (roofD r) 0), (1, .ref false (row8D f) 0), (5, .v (.int .i64 c))]) (fun _ => []) (fun c => c ≤ 8 ∧ UptoK (colOk r f) c) (fun c => 8 - c) 0 ⟨Nat.zero_le _, UptoK.zero _⟩
    (sim_of (rn := []) rfl ⟨rfl, rfl, rfl, trivial⟩ trivial) ?_
  rintro c ⟨hc, hall⟩
  conv => whnf
  cases h4 : decide ((c : Int) < 8)
  · have h8 : c = 8 := by simp at h4; omega
    subst h8
    conv => whnf
    refine ⟨rfl, _, rfl, ?_⟩
    rw [hall.all]; rfl
  conv => whnf
  have h8 : c < 8 := by simp at h4; omega
  have ht := hf.t c
  have e5 : IntKind.i64.wrap (f c) = f c := w64 (by omega) (by omega)
  have bad : colOk r f c = false → (List.range 8).all (colOk r f) = false := allK_false h8
  have fin : colOk r f c = true → ∃ y, 8 - y < 8 - c ∧ (y ≤ 8 ∧ UptoK (colOk r f) y) ∧ y = c + 1 := fun h => ⟨c + 1, by omega, ⟨by omega, hall.next h⟩, rfl⟩
  refine ⟨⟨by omega, by omega⟩, ?_⟩
  conv => whnf
  refine optK_of (row8_get (k := c) (by simp) h8) ?_
  conv => whnf
  rw [e4, e5]
  refine ⟨by omega, ?_⟩
  conv => whnf
  cases h6 : ((f c).fdiv (2 ^ min r.w.toNat IntKind.i64.bits) != 0)
  case true =>
    conv => whnf
    refine ⟨rfl, _, rfl, ?_⟩
    have : (shrI (f c) r.w == 0) = false := by unfold shrI; simpa using h6
    rw [bad (by simp only [colOk, this, Bool.false_and])]; rfl
  have h6' : (shrI (f c) r.w == 0) = true := by unfold shrI; simpa using h6
  conv => whnf
  rw [e3]
  cases h9 : decide ((c : Int) ≥ r.h)
  · conv => whnf
    obtain ⟨y, g1, g2, rfl⟩ := fin (by simp at h9; simp only [colOk, h6', Bool.true_and]; simp; left; omega)
    exact ⟨_, g1, g2, sim_of (rn := []) rfl ⟨rfl, rfl, succ64 (by omega), trivial⟩ trivial⟩
  have h9' : decide ((c : Int) < r.h) = false := by simp at h9 ⊢; omega
  conv => whnf
  refine ⟨⟨by omega, by omega⟩, ?_⟩
  conv => whnf
  refine optK_of (row8_get (k := c) (by simp) h8) ?_
  conv => whnf
  cases h7 : (f c != 0)
  · conv => whnf
    obtain ⟨y, g1, g2, rfl⟩ := fin (by simp at h7; simp only [colOk, h6', Bool.true_and]; simp [h7])
    exact ⟨_, g1, g2, sim_of (rn := []) rfl ⟨rfl, rfl, succ64 (by omega), trivial⟩ trivial⟩
  · conv => whnf
    refine ⟨rfl, _, rfl, ?_⟩
    have : (f c == 0) = false := by simpa using h7
    rw [bad (by simp only [colOk, this, h9', Bool.or_self, Bool.and_false])]; rfl

theorem validColours_sat (r : Roof) (hr : r.In) (f : Nat → Int) (hf : RowIn f) : Sat Try.prog 55 [roofD r, row8D f] (.v (.bool (okC r f))) := by
  refine sat_of_wp hMix tOk Try.func55 rfl rfl Try.ntmps55 rfl rfl Try.results55 (by kernel_rfl) ?_
  conv => whnf
  refine ⟨by simp [roofC], ?_⟩
  conv => whnf
  have e0 : ((roofC r).drop 0).take 67 = roofC r := take_drop0 (by simp [roofC])
  have e0' : Sat Try.prog 92 [D.v (.agg ⟨((roofC r).drop 0).take 67⟩)] (.v (.bool (okR r))) := by rw [e0]; exact validRoof_sat r hr
  refine ⟨_, _, rfl, e0', ?_⟩
  conv => whnf
  cases h1 : okR r
  · refine ⟨rfl, _, rfl, ?_⟩
    simp only [okC, h1, Bool.false_and]; rfl
  have hok : okC r f = (List.range 8).all (colOk r f) := by simp only [okC, h1, Bool.true_and]
  rw [hok]
  have hb := okR_bounds h1
  have e3 : IntKind.i64.wrap r.h = r.h := w64 (by omega) (by omega)
  conv => whnf
  refine ⟨by simp [row8D], ?_⟩
  conv => whnf
  refine loop_rule (α := Nat) (fun i => [(2, .ptr (2, 0, 0) 0), (10, row8D f), (11, .v (.int .i64 i))]) (fun i => [((2, 0, 0), roofD r)]) (fun i => i ≤ 8 ∧ UptoK (colOk r f) i) (fun i => 8 - i) 0 ⟨Nat.zero_le _, UptoK.zero _⟩
    (sim_of (rn := [((2, 0, 0), (2, 0, 0))]) rfl ⟨rfl, ?_, rfl, trivial⟩ ⟨⟨_, _, rfl, rfl, rfl⟩, trivial⟩) ?_
  · show some (D.v (.agg ⟨row8 f⟩)) = some (D.v (.agg ⟨((row8 f).drop 0).take 8⟩))
    rw [take_drop0 (by simp)]
  rintro c ⟨hc, hall⟩
  conv => whnf
  cases h4 : decide ((c : Int) < 8)
  · have h8 : c = 8 := by simp at h4; omega
    subst h8
    conv => whnf
    refine ⟨rfl, _, rfl, ?_⟩
    rw [hall.all]; rfl
  conv => whnf
  have h8 : c < 8 := by simp at h4; omega
  have ht := hf.t c
  have e5 : IntKind.i64.wrap (f c) = f c := w64 (by omega) (by omega)
  have bad : colOk r f c = false → (List.range 8).all (colOk r f) = false := allK_false h8
  have fin : colOk r f c = true → ∃ y, 8 - y < 8 - c ∧ (y ≤ 8 ∧ UptoK (colOk r f) y) ∧ y = c + 1 := fun h => ⟨c + 1, by omega, ⟨by omega, hall.next h⟩, rfl⟩
  refine ⟨⟨by omega, by omega⟩, ?_⟩
  conv => whnf
  refine optK_of (row8_get (k := c) (by simp) h8) ?_
  conv => whnf
  have done : colOk r f c = true → ∀ (Q : Prop), (∀ y, 8 - y < 8 - c → (y ≤ 8 ∧ UptoK (colOk r f) y) → y = c + 1 → Q) → Q := fun h Q k => by
    obtain ⟨y, g1, g2, g3⟩ := fin h; exact k y g1 g2 g3
  cases h7 : (f c != 0)
  · conv => whnf
    rw [e5]
    refine ⟨by omega, ?_⟩
    conv => whnf
    have h7' : f c = 0 := by simpa using h7
    have hz : ((f c).fdiv (2 ^ min r.w.toNat IntKind.i64.bits) != 0) = false := by rw [h7']; simp
    rw [hz]
    conv => whnf
    obtain ⟨y, g1, g2, rfl⟩ := fin (by
      have : (shrI (f c) r.w == 0) = true := by unfold shrI; simpa using hz
      simp only [colOk, this, Bool.true_and]; simp [h7'])
    exact ⟨_, g1, g2, sim_of (rn := [((2, 0, 0), (2, 0, 0))]) rfl ⟨rfl, rfl, succ64 (by omega), trivial⟩ ⟨⟨_, _, rfl, rfl, rfl⟩, trivial⟩⟩
  have h7' : (f c == 0) = false := by simpa using h7
  conv => whnf
  rw [e3]
  cases h9 : decide ((c : Int) ≥ r.h)
  case true =>
    conv => whnf
    refine ⟨rfl, _, rfl, ?_⟩
    have h9' : decide ((c : Int) < r.h) = false := by simp at h9 ⊢; omega
    rw [bad (by simp only [colOk, h7', h9', Bool.or_self, Bool.and_false])]; rfl
  conv => whnf
  rw [e5]
  refine ⟨by omega, ?_⟩
  conv => whnf
  cases h6 : ((f c).fdiv (2 ^ min r.w.toNat IntKind.i64.bits) != 0)
  · conv => whnf
    have h6' : (shrI (f c) r.w == 0) = true := by unfold shrI; simpa using h6
    obtain ⟨y, g1, g2, rfl⟩ := fin (by simp at h9; simp only [colOk, h6', Bool.true_and]; simp; left; omega)
    exact ⟨_, g1, g2, sim_of (rn := [((2, 0, 0), (2, 0, 0))]) rfl ⟨rfl, rfl, succ64 (by omega), trivial⟩ ⟨⟨_, _, rfl, rfl, rfl⟩, trivial⟩⟩
  · conv => whnf
    refine ⟨rfl, _, rfl, ?_⟩
    have : (shrI (f c) r.w == 0) = false := by unfold shrI; simpa using h6
    rw [bad (by simp only [colOk, this, Bool.false_and])]; rfl

end Go.Proofs.Ytndlknhakdadjaa
