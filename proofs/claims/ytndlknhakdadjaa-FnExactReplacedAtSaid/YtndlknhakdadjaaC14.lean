/- Contracts: the oldest tile, both sides. -/
import Derived.Test.YtndlknhakdadjaaC13
set_option linter.unusedVariables false
set_option linter.unusedSimpArgs false
namespace Go.V
def cmpI (x y : Int) : Int := if x < y then -1 else if x > y then 1 else 0
def nthP (ps : List Pl) (i : Nat) : Pl := ps.getD i (0, 0)
theorem nthP_some {ps : List Pl} {i : Nat} (h : i < ps.length) : ps[i]? = some (nthP ps i) := by
  unfold nthP; rw [List.getD_eq_getElem?_getD]; simp [h]
def bestL (a : Nat → Nat → Int) (ps : List Pl) : Nat → Pl
  | 0 => nthP ps 0
  | i + 1 => if a (nthP ps (i + 1)).1 (nthP ps (i + 1)).2 > a (bestL a ps i).1 (bestL a ps i).2 then nthP ps (i + 1) else bestL a ps i
def AllIn (ps : List Pl) : Prop := ∀ i, i < ps.length → (nthP ps i).1 < 8 ∧ (nthP ps i).2 < 8
theorem bestL_in {a : Nat → Nat → Int} {ps : List Pl} (h : AllIn ps) : ∀ i, i < ps.length → (bestL a ps i).1 < 8 ∧ (bestL a ps i).2 < 8
  | 0, hi => h 0 hi
  | i + 1, hi => by
    simp only [bestL]
    split
    · exact h _ hi
    · exact bestL_in h i (by omega)
def plD (q : Pl) : D := placeD q.1 q.2
theorem cmpI_pos (x y : Int) : decide (cmpI x y > 0) = decide (x > y) := by
  unfold cmpI
  split
  · rw [Bool.eq_iff_iff]; simp; omega
  · split
    · rw [Bool.eq_iff_iff]; simp; omega
    · rw [Bool.eq_iff_iff]; simp; omega
theorem place_load {ps : List Pl} {i o : Nat} (ho : o = i * 2) (h : i < ps.length) : ((placesC ps).drop o).take 2 = [.int .i8 (nthP ps i).1, .int .i8 (nthP ps i).2] := by
  subst ho; exact placesC_sub (nthP_some h)
theorem gridP_in {w h : Nat} (hw : w ≤ 8) (hh : h ≤ 8) : AllIn (gridP w h) := by
  intro i hi
  have hm : nthP (gridP w h) i ∈ gridP w h := List.mem_of_getElem? (nthP_some hi)
  generalize nthP (gridP w h) i = q at hm
  unfold gridP rowP at hm
  simp only [List.mem_flatMap, List.mem_range, List.mem_map] at hm
  obtain ⟨x, hx, j, hj, rfl⟩ := hm
  constructor <;> simp only <;> omega
def oldP (r : Roof) (a : Nat → Nat → Int) : Pl := bestL a (gridP r.w.toNat r.h.toNat) ((gridP r.w.toNat r.h.toNat).length - 1)
theorem gridP_size {r : Roof} (hb : (1 ≤ r.w ∧ r.w ≤ 8) ∧ (1 ≤ r.h ∧ r.h ≤ 8) ∧ r.s ≤ 1) : 1 ≤ (gridP r.w.toNat r.h.toNat).length ∧ (gridP r.w.toNat r.h.toNat).length ≤ 72 := by
  rw [gridP_len]
  have h1 : r.h.toNat * r.w.toNat ≤ 8 * 8 := Nat.mul_le_mul (by omega) (by omega)
  have h2 : 1 * 1 ≤ r.h.toNat * r.w.toNat := Nat.mul_le_mul (by omega) (by omega)
  omega
end Go.V
namespace Go.Proofs.Ytndlknhakdadjaa
open Go.V
theorem isNaN_sat (x : Int) : Sat Try.prog 182 [.v (.int .i64 x)] (.v (.bool false)) := by
  refine sat_of_wp hMix tOk Try.func182 rfl rfl Try.ntmps182 rfl rfl Try.results182 (by kernel_rfl) ?_
  conv => whnf
  refine ⟨rfl, _, rfl, ?_⟩
  show D.v (.bool false) = D.v (.bool (x != x))
  rw [show (x != x) = false by simp]

theorem compare_sat (x y : Int) : Sat Try.prog 137 [.v (.int .i64 x), .v (.int .i64 y)] (.v (.int .i64 (cmpI x y))) := by
  refine sat_of_wp hMix tOk Try.func137 rfl rfl Try.ntmps137 rfl rfl Try.results137 (by kernel_rfl) ?_
  conv => whnf
  refine ⟨_, _, rfl, isNaN_sat x, ?_⟩
  conv => whnf
  refine ⟨_, _, rfl, isNaN_sat y, ?_⟩
  conv => whnf
  cases h : decide (x < y)
  · conv => whnf
    have h' : ¬ x < y := by simpa using h
    cases h2 : decide (x > y)
    · refine ⟨rfl, _, rfl, ?_⟩
      have h2' : ¬ x > y := by simpa using h2
      simp only [cmpI, if_neg h', if_neg h2']; rfl
    · refine ⟨rfl, _, rfl, ?_⟩
      have h2' : x > y := by simpa using h2
      simp only [cmpI, if_neg h', if_pos h2']; rfl
  · refine ⟨rfl, _, rfl, ?_⟩
    have h' : x < y := by simpa using h
    simp only [cmpI, if_pos h']; rfl

theorem oldest2_sat (a : Nat → Nat → Int) (ha : AgesIn a) (c k c' k' : Nat) (hc : c < 8) (hk : k < 8) (hc' : c' < 8) (hk' : k' < 8) :
    Sat Try.prog 136 [placeD c k, placeD c' k', .ref false (gridD a) 0] (.v (.int .i64 (cmpI (a c k) (a c' k')))) := by
  have e1 : ((grid a).drop 0).take 64 = grid a := take_drop0 (by simp)
  have ca : ∀ c k : Nat, c < 8 → k < 8 → Sat Try.prog 69 [D.v (.agg ⟨((grid a).drop 0).take 64⟩), placeD c k] (.v (.int .i64 (a c k))) := fun c k hc hk => by rw [e1]; exact at_sat a ha c k hc hk
  refine sat_of_wp hMix tOk Try.func136 rfl rfl Try.ntmps136 rfl rfl Try.results136 (by kernel_rfl) ?_
  conv => whnf
  refine ⟨by simp [gridD], ?_⟩
  conv => whnf
  refine ⟨by simp, ?_⟩
  conv => whnf
  refine ⟨_, _, rfl, ca c k hc hk, ?_⟩
  conv => whnf
  refine ⟨by simp [gridD], ?_⟩
  conv => whnf
  refine ⟨by simp, ?_⟩
  conv => whnf
  refine ⟨_, _, rfl, ca c' k' hc' hk', ?_⟩
  conv => whnf
  refine ⟨_, _, rfl, compare_sat _ _, ?_⟩
  exact ⟨rfl, _, rfl, rfl⟩

theorem maxFunc_sat (a : Nat → Nat → Int) (ha : AgesIn a) (ps : List Pl) (hl : 1 ≤ ps.length ∧ ps.length ≤ 72) (hps : AllIn ps) :
    Sat Try.prog 134 [placesD false ps, .fn (.func 136) [] [.ref false (gridD a) 0]] (plD (bestL a ps (ps.length - 1))) := by
  refine sat_of_wp hMix tOk Try.func134 rfl rfl Try.ntmps134 rfl rfl Try.results134 (by kernel_rfl) ?_
  conv => whnf
  have hne : decide ((ps.length : Int) < 1) = false := by simp; omega
  rw [hne]
  conv => whnf
  refine ⟨⟨by omega, by omega⟩, ?_⟩
  conv => whnf
  refine ⟨by simp; omega, ?_⟩
  conv => whnf
  have e0 : List.take ti109.size (List.drop (Int.toNat 0 * ti109.size) ({ toList := placesC ps } : Array Value).toList) = [.int .i8 (nthP ps 0).1, .int .i8 (nthP ps 0).2] :=
    place_load (i := 0) (by simp) (by omega)
  rw [e0]
  refine ⟨rfl, ?_⟩
  conv => whnf
  refine ⟨by simp, ?_⟩
  conv => whnf
  refine loop_rule (α := Nat) (fun i => [(0, placesD false ps), (1, .fn (.func 136) [] [.ref false (gridD a) 0]), (4, .ptr (4, 0, 0) 0), (5, .ptr (5, 0, 0) 0), (6, .v (.int .i64 ((i + 1 : Nat) : Int)))])
    (fun i => [((4, 0, 0), .v (.agg ⟨[.int .i8 0, .int .i8 0]⟩)), ((5, 0, 0), plD (bestL a ps i))]) (fun i => i + 1 ≤ ps.length) (fun i => ps.length - i) 0 (by omega)
    (sim_of (rn := [((4, 0, 0), (4, 0, 0)), ((5, 0, 0), (5, 0, 0))]) rfl ⟨rfl, rfl, rfl, rfl, rfl, trivial⟩ ⟨⟨_, _, rfl, rfl, rfl⟩, ⟨_, _, rfl, rfl, rfl⟩, trivial⟩) ?_
  intro i hi
  conv => whnf
  cases h4 : decide (((i + 1 : Nat) : Int) < (ps.length : Int))
  · have h8 : i = ps.length - 1 := by simp at h4; omega
    subst h8
    conv => whnf
    refine ⟨by simp, ?_⟩
    conv => whnf
    refine ⟨by simp, ?_⟩
    conv => whnf
    refine ⟨by simp, ?_⟩
    conv => whnf
    refine ⟨by simp [splice], ?_⟩
    exact ⟨rfl, _, rfl, rfl⟩
  conv => whnf
  have hlt : i + 1 < ps.length := by simp at h4; omega
  refine ⟨⟨by omega, by omega⟩, ?_⟩
  conv => whnf
  refine ⟨by simp; omega, ?_⟩
  conv => whnf
  have e1 : ((placesC ps).drop (((i + 1 : Nat) : Int).toNat * 2)).take 2 = [.int .i8 (nthP ps (i + 1)).1, .int .i8 (nthP ps (i + 1)).2] := place_load (by omega) hlt
  have q1 := hps (i + 1) hlt
  have q2 := bestL_in (a := a) hps i (by omega)
  refine ⟨by simp, ?_⟩
  conv => whnf
  have cc : Sat Try.prog 136 [.v (.agg ⟨((placesC ps).drop (((i + 1 : Nat) : Int).toNat * 2)).take 2⟩), plD (bestL a ps i), .ref false (gridD a) 0] (.v (.int .i64 (cmpI (a (nthP ps (i + 1)).1 (nthP ps (i + 1)).2) (a (bestL a ps i).1 (bestL a ps i).2)))) := by
    rw [e1]; exact oldest2_sat a ha _ _ _ _ q1.1 q1.2 q2.1 q2.2
  refine ⟨_, _, rfl, cc, ?_⟩
  conv => whnf
  rw [cmpI_pos]
  cases h5 : decide (a (nthP ps (i + 1)).1 (nthP ps (i + 1)).2 > a (bestL a ps i).1 (bestL a ps i).2)
  · have hb : bestL a ps (i + 1) = bestL a ps i := by
      have : ¬ a (nthP ps (i + 1)).1 (nthP ps (i + 1)).2 > a (bestL a ps i).1 (bestL a ps i).2 := by simpa using h5
      simp only [bestL, if_neg this]
    conv => whnf
    refine ⟨i + 1, by dsimp only; omega, by dsimp only; omega, sim_of (rn := [((4, 0, 0), (4, 0, 0)), ((5, 0, 0), (5, 0, 0))]) rfl ⟨rfl, rfl, rfl, rfl, succ64 (by omega), trivial⟩ ⟨⟨_, _, rfl, rfl, rfl⟩, ⟨_, _, rfl, rfl, ?_⟩, trivial⟩⟩
    rw [hb]; rfl
  · have hb : bestL a ps (i + 1) = nthP ps (i + 1) := by
      have : a (nthP ps (i + 1)).1 (nthP ps (i + 1)).2 > a (bestL a ps i).1 (bestL a ps i).2 := by simpa using h5
      simp only [bestL, if_pos this]
    conv => whnf
    refine ⟨⟨by omega, by omega⟩, ?_⟩
    conv => whnf
    refine ⟨by simp; omega, ?_⟩
    conv => whnf
    refine ⟨by simp; omega, ?_⟩
    conv => whnf
    refine ⟨by simp; omega, ?_⟩
    conv => whnf
    refine ⟨i + 1, by dsimp only; omega, by dsimp only; omega, sim_of (rn := [((4, 0, 0), (4, 0, 0)), ((5, 0, 0), (5, 0, 0))]) rfl ⟨rfl, rfl, rfl, rfl, succ64 (by omega), trivial⟩ ⟨⟨_, _, rfl, rfl, rfl⟩, ⟨_, _, rfl, rfl, ?_⟩, trivial⟩⟩
    rw [hb]
    show some (D.v (.agg ⟨splice [.int .i8 (bestL a ps i).1, .int .i8 (bestL a ps i).2] 0 (((placesC ps).drop (((i + 1 : Nat) : Int).toNat * 2)).take 2)⟩)) = some (D.v (.agg ⟨[.int .i8 (nthP ps (i + 1)).1, .int .i8 (nthP ps (i + 1)).2]⟩))
    rw [e1]; rfl

theorem oldest1_sat (c k : Nat) : Sat Try.prog 135 [placeD c k] (.v (.bool true)) := by
  refine sat_of_wp hMix tOk Try.func135 rfl rfl Try.ntmps135 rfl rfl Try.results135 (by kernel_rfl) ?_
  exact ⟨rfl, _, rfl, rfl⟩

theorem oldest_sat (r : Roof) (hr : r.In) (hb : (1 ≤ r.w ∧ r.w ≤ 8) ∧ (1 ≤ r.h ∧ r.h ≤ 8) ∧ r.s ≤ 1) (a : Nat → Nat → Int) (ha : AgesIn a) : Sat Try.prog 70 [roofD r, gridD a] (plD (oldP r a)) := by
  have e0 : ((roofC r).drop 0).take 67 = roofC r := take_drop0 (by simp [roofC])
  have hp : Sat Try.prog 72 [D.v (.agg ⟨((roofC r).drop 0).take 67⟩), .fn (.func 135) [] []] (placesD true (gridP r.w.toNat r.h.toNat)) := by
    rw [e0, ← allP_true]; exact places_sat r hr hb fun c k _ _ => oldest1_sat c k
  have hs := gridP_size hb
  have e2 : ((placesC (gridP r.w.toNat r.h.toNat)).drop 0).take ((gridP r.w.toNat r.h.toNat).length * 2) = placesC (gridP r.w.toNat r.h.toNat) := take_drop0 (by simp)
  have hm : Sat Try.prog 134 [.row false 2 (.v (.agg ⟨((placesC (gridP r.w.toNat r.h.toNat)).drop 0).take ((gridP r.w.toNat r.h.toNat).length * 2)⟩)) (gridP r.w.toNat r.h.toNat).length, .fn (.func 136) [] [.ref false (gridD a) 0]] (plD (oldP r a)) := by
    rw [e2]; exact maxFunc_sat a ha _ hs (gridP_in (by omega) (by omega))
  refine sat_of_wp hMix tOk Try.func70 rfl rfl Try.ntmps70 rfl rfl Try.results70 (by kernel_rfl) ?_
  conv => whnf
  refine ⟨by simp [roofC], ?_⟩
  conv => whnf
  refine ⟨_, _, rfl, hp, ?_⟩
  conv => whnf
  refine ⟨_, _, rfl, hm, ?_⟩
  conv => whnf
  refine ⟨by simp, ?_⟩
  conv => whnf
  refine ⟨by simp, ?_⟩
  conv => whnf
  refine ⟨by simp [splice], ?_⟩
  exact ⟨rfl, _, rfl, rfl⟩
end Go.Proofs.Ytndlknhakdadjaa
