/- Contracts: the oldest tile, the reference's side. -/
import Derived.Test.YtndlknhakdadjaaC14
set_option linter.unusedVariables false
set_option linter.unusedSimpArgs false
namespace Go.V
def ageP (a : Nat → Nat → Int) (q : Pl) : Int := a q.1 q.2
end Go.V
namespace Go.Proofs.Ytndlknhakdadjaa
open Go.V
theorem l07Oldest_sat (r : Roof) (hr : r.In) (hb : (1 ≤ r.w ∧ r.w ≤ 8) ∧ (1 ≤ r.h ∧ r.h ≤ 8) ∧ r.s ≤ 1) (a : Nat → Nat → Int) (ha : AgesIn a) :
    Sat Try.prog 130 [.ref false (roofD r) 0, .ref false (gridD a) 0] (.tup [plD (oldP r a), .v (.int .i64 (ageP a (oldP r a)))]) := by
  have hall : Sat Try.prog 64 [.ref false (roofD r) 0] (placesD true (gridP r.w.toNat r.h.toNat)) := by rw [← allP_true]; exact l01All_sat r hr hb
  have hl := gridP_size hb
  have hps := gridP_in (w := r.w.toNat) (h := r.h.toNat) (by omega) (by omega)
  unfold oldP
  generalize gridP r.w.toNat r.h.toNat = ps at *
  refine sat_of_wp hMix tOk Try.func130 rfl rfl Try.ntmps130 rfl rfl Try.results130 (by kernel_rfl) ?_
  conv => whnf
  refine ⟨_, _, rfl, hall, ?_⟩
  conv => whnf
  refine ⟨⟨by omega, by omega⟩, ?_⟩
  conv => whnf
  refine ⟨by simp; omega, ?_⟩
  conv => whnf
  have e0 : List.take ti109.size (List.drop (0 + Int.toNat 0 * ti109.size) ({ toList := placesC ps } : Array Value).toList) = [.int .i8 (nthP ps 0).1, .int .i8 (nthP ps 0).2] :=
    place_load (i := 0) (by simp) (by omega)
  rw [e0]
  refine ⟨rfl, ?_⟩
  conv => whnf
  refine ⟨by simp, ?_⟩
  conv => whnf
  refine loop_rule (α := Nat) (fun i => [(1, .ref false (gridD a) 0), (4, .ptr (4, 0, 0) 0), (6, .slc true 2 (10, 0, 0) 0 ps.length), (7, .ptr (7, 0, 0) 0), (8, .v (.int .i64 ((i + 1 : Nat) : Int)))])
    (fun i => [((4, 0, 0), .v (.agg ⟨[.int .i8 0, .int .i8 0]⟩)), ((7, 0, 0), plD (bestL a ps i)), ((10, 0, 0), .v (.agg ⟨placesC ps⟩))]) (fun i => i + 1 ≤ ps.length) (fun i => ps.length - i) 0 (by omega)
    (sim_of (rn := [((4, 0, 0), (4, 0, 0)), ((7, 0, 0), (7, 0, 0)), ((10, 0, 0), (10, 0, 0))]) rfl ⟨rfl, rfl, rfl, rfl, rfl, trivial⟩ ⟨⟨_, _, rfl, rfl, rfl⟩, ⟨_, _, rfl, rfl, rfl⟩, ⟨_, _, rfl, rfl, rfl⟩, trivial⟩) ?_
  intro i hi
  conv => whnf
  have q2 := bestL_in (a := a) hps i (by omega)
  cases h4 : decide (((i + 1 : Nat) : Int) < (ps.length : Int))
  · have h8 : i = ps.length - 1 := by simp at h4; omega
    subst h8
    conv => whnf
    refine ⟨by simp, ?_⟩
    conv => whnf
    refine ⟨by simp, ?_⟩
    conv => whnf
    refine ⟨_, _, rfl, l07Age_sat a ha _ _ q2.1 q2.2, ?_⟩
    conv => whnf
    refine ⟨by simp, ?_⟩
    conv => whnf
    refine ⟨by simp, ?_⟩
    conv => whnf
    refine ⟨by simp [splice], ?_⟩
    exact ⟨rfl, _, rfl, rfl⟩
  conv => whnf
  have hlt : i + 1 < ps.length := by simp at h4; omega
  refine ⟨⟨by omega, by omega⟩, ?_⟩
  conv => whnf
  refine ⟨by simp; omega, ?_⟩
  conv => whnf
  have e1 : ((placesC ps).drop (0 + ((i + 1 : Nat) : Int).toNat * 2)).take 2 = [.int .i8 (nthP ps (i + 1)).1, .int .i8 (nthP ps (i + 1)).2] := place_load (by omega) hlt
  have q1 := hps (i + 1) hlt
  have cc : Sat Try.prog 65 [.ref false (gridD a) 0, .v (.agg ⟨((placesC ps).drop (0 + ((i + 1 : Nat) : Int).toNat * 2)).take 2⟩)] (.v (.int .i64 (a (nthP ps (i + 1)).1 (nthP ps (i + 1)).2))) := by
    rw [e1]; exact l07Age_sat a ha _ _ q1.1 q1.2
  refine ⟨_, _, rfl, cc, ?_⟩
  conv => whnf
  refine ⟨by simp, ?_⟩
  conv => whnf
  refine ⟨_, _, rfl, l07Age_sat a ha _ _ q2.1 q2.2, ?_⟩
  conv => whnf
  cases h5 : decide (a (nthP ps (i + 1)).1 (nthP ps (i + 1)).2 > a (bestL a ps i).1 (bestL a ps i).2)
  · have hb : bestL a ps (i + 1) = bestL a ps i := by
      have : ¬ a (nthP ps (i + 1)).1 (nthP ps (i + 1)).2 > a (bestL a ps i).1 (bestL a ps i).2 := by simpa using h5
      simp only [bestL, if_neg this]
    conv => whnf
    refine ⟨i + 1, by dsimp only; omega, by dsimp only; omega, sim_of (rn := [((4, 0, 0), (4, 0, 0)), ((7, 0, 0), (7, 0, 0)), ((10, 0, 0), (10, 0, 0))]) rfl ⟨rfl, rfl, rfl, rfl, succ64 (by omega), trivial⟩ ⟨⟨_, _, rfl, rfl, rfl⟩, ⟨_, _, rfl, rfl, ?_⟩, ⟨_, _, rfl, rfl, rfl⟩, trivial⟩⟩
    rw [hb]; rfl
  · have hb : bestL a ps (i + 1) = nthP ps (i + 1) := by
      have : a (nthP ps (i + 1)).1 (nthP ps (i + 1)).2 > a (bestL a ps i).1 (bestL a ps i).2 := by simpa using h5
      simp only [bestL, if_pos this]
    conv => whnf
    refine ⟨⟨by omega, by omega⟩, ?_⟩
    conv => whnf
    refine ⟨by simp; omega, ?_⟩
    conv => whnf
    refine ⟨by simp; omega, ?_⟩
    conv => whnf
    refine ⟨by simp; omega, ?_⟩
    conv => whnf
    refine ⟨i + 1, by dsimp only; omega, by dsimp only; omega, sim_of (rn := [((4, 0, 0), (4, 0, 0)), ((7, 0, 0), (7, 0, 0)), ((10, 0, 0), (10, 0, 0))]) rfl ⟨rfl, rfl, rfl, rfl, succ64 (by omega), trivial⟩ ⟨⟨_, _, rfl, rfl, rfl⟩, ⟨_, _, rfl, rfl, ?_⟩, ⟨_, _, rfl, rfl, rfl⟩, trivial⟩⟩
    rw [hb]
    show some (D.v (.agg ⟨splice [.int .i8 (bestL a ps i).1, .int .i8 (bestL a ps i).2] 0 (((placesC ps).drop (0 + ((i + 1 : Nat) : Int).toNat * 2)).take 2)⟩)) = some (D.v (.agg ⟨[.int .i8 (nthP ps (i + 1)).1, .int .i8 (nthP ps (i + 1)).2]⟩))
    rw [e1]; rfl
end Go.Proofs.Ytndlknhakdadjaa
