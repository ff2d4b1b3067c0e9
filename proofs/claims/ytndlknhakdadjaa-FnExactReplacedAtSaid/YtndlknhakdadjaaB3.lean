/- Plain words for use: lengths, looks into grids and lists. -/
import Derived.Test.YtndlknhakdadjaaC14
import Derived.Test.YtndlknhakdadjaaV15
import Derived.Test.YtndlknhakdadjaaV18
set_option linter.unusedVariables false
set_option linter.unusedSimpArgs false
namespace Go.V
@[simp] theorem roofC_len (r : Roof) : (roofC r).length = 67 := by simp [roofC]
/-- The oldest is at least as old as any. -/
theorem bestL_max (a : Nat → Nat → Int) (ps : List Pl) : ∀ i j, j ≤ i → a (nthP ps j).1 (nthP ps j).2 ≤ a (bestL a ps i).1 (bestL a ps i).2
  | 0, j, h => by
    have : j = 0 := by omega
    subst this; simp [bestL]
  | i + 1, j, h => by
    simp only [bestL]
    split
    · rename_i hgt
      by_cases hj : j = i + 1
      · subst hj; omega
      · have := bestL_max a ps i j (by omega); omega
    · rename_i hle
      by_cases hj : j = i + 1
      · subst hj; omega
      · exact bestL_max a ps i j (by omega)
theorem bestL_mem (a : Nat → Nat → Int) (ps : List Pl) : ∀ i, ∃ j, j ≤ i ∧ bestL a ps i = nthP ps j
  | 0 => ⟨0, by omega, rfl⟩
  | i + 1 => by
    simp only [bestL]
    split
    · exact ⟨i + 1, by omega, rfl⟩
    · obtain ⟨j, h1, h2⟩ := bestL_mem a ps i
      exact ⟨j, by omega, h2⟩
/-- The i-th place of a grid. -/
theorem gridP_nth {w h i : Nat} (hi : i < h * w) : nthP (gridP w h) i = (i / w, i % w) := by
  unfold nthP
  induction h with
  | zero => simp at hi
  | succ h ih =>
    rw [gridP_next, List.getD_eq_getElem?_getD, List.getElem?_append]
    have hw : 0 < w := by
      rcases Nat.eq_zero_or_pos w with h0 | h0
      · subst h0; simp at hi
      · exact h0
    rw [gridP_len]
    split
    · rename_i hlt
      have := ih hlt
      rw [List.getD_eq_getElem?_getD] at this
      exact this
    · rename_i hge
      have hge' : h * w ≤ i := by omega
      rw [Nat.succ_mul] at hi
      have e1 : i / w = h := by
        rw [Nat.div_eq_iff hw]; constructor
        · omega
        · omega
      have e2 : i % w = i - h * w := by
        have := Nat.div_add_mod i w
        rw [e1, Nat.mul_comm] at this
        omega
      rw [e1, e2]
      unfold rowP
      simp [show i - h * w < w by omega]
theorem gridN {t : Nat → Nat → Int} {c k : Nat} (hc : c < 8) (hk : k < 8) : nth (grid t) (0 + (c : Int).toNat * 8 + (k : Int).toNat * 1) = some (.int .u8 (t c k)) := grid_at (by simp) hc hk
theorem roofN {r : Roof} {c k : Nat} (hc : c < 8) (hk : k < 8) : nth (roofC r) (0 + 3 + (c : Int).toNat * 8 + (k : Int).toNat * 1) = some (.int .u8 (r.t c k)) := roof_get (by simp) hc hk
theorem rowN {t : Nat → Int} {k : Nat} (hk : k < 8) : nth (row8 t) (0 + (k : Int).toNat * 1) = some (.int .u8 (t k)) := row8_get (by simp) hk
theorem vrow {t : Nat → Nat → Int} {c o : Nat} (ho : o = c * 8) (hc : c < 8) : D.v (.agg ⟨((grid t).drop o).take 8⟩) = row8D (t c) := by
  rw [grid_row ho hc]; rfl
theorem vtiles {r : Roof} {o : Nat} (ho : o = 3) : D.v (.agg ⟨((roofC r).drop o).take 64⟩) = gridD r.t := by
  subst ho
  unfold gridD
  simp [roofC, take_full]
theorem grid_zero : grid (fun _ _ => 0) = List.replicate 64 (.int .u8 0) := by
  unfold grid
  rw [tab_def]
  simp [List.map_const']
/-- A cell of a grid replaced. -/
def putG (t : Nat → Nat → Int) (c k : Nat) (x : Int) : Nat → Nat → Int := fun c' k' => if c' = c ∧ k' = k then x else t c' k'
theorem grid_set {t : Nat → Nat → Int} {c k o : Nat} {x : Int} (ho : o = c * 8 + k) (hc : c < 8) (hk : k < 8) : (grid t).set o (.int .u8 x) = grid (putG t c k x) := by
  subst ho
  unfold grid putG
  rw [tab_set]
  apply tab_congr
  intro i hi
  by_cases h : i = c * 8 + k
  · subst h
    rw [if_pos rfl, if_pos ⟨by omega, by omega⟩]
  · rw [if_neg h, if_neg (by omega)]
def putR (r : Roof) (c k : Nat) (x : Int) : Roof := { r with t := putG r.t c k x }
theorem roof_set {r : Roof} {c k o : Nat} {x : Int} (ho : o = 3 + c * 8 + k) (hc : c < 8) (hk : k < 8) : (roofC r).set o (.int .u8 x) = roofC (putR r c k x) := by
  subst ho
  unfold roofC putR
  rw [show 3 + c * 8 + k = (c * 8 + k) + 1 + 1 + 1 by omega]
  simp only [List.set_cons_succ]
  rw [grid_set rfl hc hk]
theorem putG_in {t : Nat → Nat → Int} {c k : Nat} {x : Int} (h : AgesIn t) (h1 : 0 ≤ x ∧ x ≤ 255) : AgesIn (putG t c k x) := ⟨fun c' k' => by
  unfold putG; split
  · exact h1
  · exact h.t c' k'⟩
theorem putR_in {r : Roof} {c k : Nat} {x : Int} (h : r.In) (h1 : 0 ≤ x ∧ x ≤ 255) : (putR r c k x).In := ⟨h.w, h.h, h.s, fun c' k' => by
  show 0 ≤ putG r.t c k x c' k' ∧ _
  unfold putR putG
  dsimp only
  split
  · exact h1
  · exact h.t c' k'⟩
theorem grid_congr {f g : Nat → Nat → Int} (h : ∀ c k, c < 8 → k < 8 → f c k = g c k) : grid f = grid g := by
  unfold grid
  exact tab_congr fun i hi => by rw [h _ _ (by omega) (by omega)]
theorem vplace {ps : List Pl} {i o : Nat} (ho : o = i * 2) (h : i < ps.length) : D.v (.agg ⟨((placesC ps).drop o).take 2⟩) = plD (nthP ps i) := by
  rw [place_load ho h]; rfl
theorem place_get {ps : List Pl} : ∀ {i : Nat}, i < ps.length → nth (placesC ps) (i * 2) = some (.int .i8 (nthP ps i).1) ∧ nth (placesC ps) (i * 2 + 1) = some (.int .i8 (nthP ps i).2) := by
  induction ps with
  | nil => intro i h; simp at h
  | cons p ps ih =>
    intro i h
    cases i with
    | zero => exact ⟨rfl, rfl⟩
    | succ i =>
      rw [show (i + 1) * 2 = i * 2 + 1 + 1 by omega]
      exact ih (by simpa using h)
theorem placeN1 {ps : List Pl} {i o : Nat} (h : i < ps.length) (ho : o = i * 2) : nth (placesC ps) o = some (.int .i8 (nthP ps i).1) := by subst ho; exact (place_get h).1
theorem placeN2 {ps : List Pl} {i o : Nat} (h : i < ps.length) (ho : o = i * 2 + 1) : nth (placesC ps) o = some (.int .i8 (nthP ps i).2) := by subst ho; exact (place_get h).2
theorem placeA {ps : List Pl} {i : Nat} (h : i < ps.length) : nth (placesC ps) (0 + (i : Int).toNat * 2 + 0) = some (.int .i8 (nthP ps i).1) := placeN1 h (by simp)
theorem placeB {ps : List Pl} {i : Nat} (h : i < ps.length) : nth (placesC ps) (0 + (i : Int).toNat * 2 + 1) = some (.int .i8 (nthP ps i).2) := placeN2 h (by simp)
theorem placeA' {ps : List Pl} {i : Nat} (h : i < ps.length) : nth (placesC ps) ((i : Int).toNat * 2 + 0) = some (.int .i8 (nthP ps i).1) := placeN1 h (by simp)
theorem placeB' {ps : List Pl} {i : Nat} (h : i < ps.length) : nth (placesC ps) ((i : Int).toNat * 2 + 1) = some (.int .i8 (nthP ps i).2) := placeN2 h (by simp)
theorem vsplice {xs ys : List Value} {n : Nat} (h : xs.length = ys.length) (h2 : ys.length ≤ n) : D.v (.agg ⟨((splice xs 0 ys).drop 0).take n⟩) = D.v (.agg ⟨ys⟩) := by
  rw [splice_all h, List.drop_zero, take_full h2]
theorem cset {l l' : List Value} (h : l = l') : some (D.v (.agg ⟨l⟩)) = some (D.v (.agg ⟨l'⟩)) := by rw [h]
theorem csplice {xs ys : List Value} (h : xs.length = ys.length) : some (D.v (.agg ⟨splice xs 0 ys⟩)) = some (D.v (.agg ⟨ys⟩)) := by rw [splice_all h]
end Go.V
