/- Contracts: the laws' own copies of rows, tables, roofs. -/
import Derived.Test.YtndlknhakdadjaaB1
set_option linter.unusedVariables false
set_option linter.unusedSimpArgs false
namespace Go.V
def row8 (f : Nat → Int) : List Value := tab 8 fun k => .int .u8 (f k)
def row8D (f : Nat → Int) : D := .v (.agg ⟨row8 f⟩)
def gridD (t : Nat → Nat → Int) : D := .v (.agg ⟨grid t⟩)
def partV (n : Nat) (f : Nat → Int) : Nat → Value := fun k => .int .u8 (if k < n then f k else 0)
theorem part_zero (m : Nat) (f : Nat → Int) : tab m (partV 0 f) = List.replicate m (.int .u8 0) := by
  apply List.ext_getElem?
  intro i
  rw [List.getElem?_replicate]
  by_cases h : i < m
  · rw [tab_get h, if_pos h]; simp [partV]
  · rw [tab_none (by omega), if_neg h]
theorem part_set {m n : Nat} {f : Nat → Int} (h : n < m) : (tab m (partV n f)).set n (.int .u8 (f n)) = tab m (partV (n + 1) f) := by
  rw [tab_set]
  apply tab_congr
  intro i hi
  simp only [partV]
  by_cases h1 : i = n
  · subst h1; simp
  · rw [if_neg h1]
    by_cases h2 : i < n
    · rw [if_pos h2, if_pos (by omega)]
    · rw [if_neg h2, if_neg (by omega)]
theorem part_all {m : Nat} {f : Nat → Int} : tab m (partV m f) = tab m fun k => .int .u8 (f k) := by
  apply tab_congr
  intro i hi
  simp only [partV, if_pos hi]
theorem row8_get {f : Nat → Int} {i k : Nat} (hi : i = k) (hk : k < 8) : nth (row8 f) i = some (.int .u8 (f k)) := by
  subst hi
  exact nth_tab hk
@[simp] theorem row8_len (f : Nat → Int) : (row8 f).length = 8 := by unfold row8; simp
@[simp] theorem grid_len (t : Nat → Nat → Int) : (grid t).length = 64 := by unfold grid; simp
structure AgesIn (a : Nat → Nat → Int) : Prop where
  t : ∀ c k, 0 ≤ a c k ∧ a c k ≤ 255
structure RowIn (f : Nat → Int) : Prop where
  t : ∀ i, 0 ≤ f i ∧ f i ≤ 255
/-- The cells of a table as one row. -/
def flat (t : Nat → Nat → Int) (i : Nat) : Int := t (i / 8) (i % 8)
theorem grid_flat (t : Nat → Nat → Int) : grid t = tab 64 fun i => .int .u8 (flat t i) := rfl
theorem grid_row {t : Nat → Nat → Int} {c o : Nat} (ho : o = c * 8) (hc : c < 8) : ((grid t).drop o).take 8 = row8 (t c) := by
  subst ho
  unfold grid
  rw [tab_sub (by omega)]
  apply tab_congr
  intro i hi
  rw [show (c * 8 + i) / 8 = c by omega, show (c * 8 + i) % 8 = i by omega]
theorem grid_put {t : Nat → Nat → Int} {c o : Nat} (ho : o = c * 8) (hc : c < 8) : splice (tab 64 (partV (c * 8) (flat t))) o (row8 (t c)) = tab 64 (partV ((c + 1) * 8) (flat t)) := by
  subst ho
  unfold row8
  rw [tab_splice (by omega)]
  apply tab_congr
  intro i hi
  simp only [partV, flat]
  by_cases h : c * 8 ≤ i ∧ i < c * 8 + 8
  · rw [if_pos h, if_pos (by omega), show i / 8 = c by omega, show i - c * 8 = i % 8 by omega]
  · rw [if_neg h]
    by_cases h2 : i < c * 8
    · rw [if_pos h2, if_pos (by omega)]
    · rw [if_neg h2, if_neg (by omega)]
theorem roof_grid (r : Roof) : ((roofC r).drop (0 + 3)).take 64 = grid r.t := by
  show (grid r.t).take 64 = grid r.t
  rw [List.take_of_length_le (by simp)]
theorem splice_all {α : Type} {xs ys : List α} (h : xs.length = ys.length) : splice xs 0 ys = ys := by
  unfold splice; simp [← h]
theorem take_drop0 {α : Type} {xs : List α} {n : Nat} (h : xs.length = n) : (xs.drop 0).take n = xs := by
  subst h; simp
/-- What a function of the laws hands back: the block that was made, copied to the result's. -/
theorem copied {xs ys : List Value} {n : Nat} (hx : xs.length = n) (hy : ys.length = n) : ((splice xs 0 ((ys.drop 0).take n)).drop 0).take n = ys := by
  rw [take_drop0 hy, splice_all (by omega), take_drop0 hy]
end Go.V
namespace Go.Proofs.Ytndlknhakdadjaa
open Go.V

theorem toByteA8_sat (f : Nat → Int) : Sat Try.prog 66 [row8D f] (row8D f) := by
  refine sat_of_wp hMix tOk Try.func66 rfl rfl Try.ntmps66 rfl rfl Try.results66 (by kernel_rfl) ?_
  conv => whnf
  refine loop_rule (α := Nat) (fun i => [(1, .ptr (1, 0, 0) 0), (2, .ptr (2, 0, 0) 0), (3, .ptr (3, 0, 0) 0), (4, .v (.int .i64 i))])
    (fun i => [((1, 0, 0), row8D f), ((2, 0, 0), .v (.agg ⟨tab 8 (partV 0 f)⟩)), ((3, 0, 0), .v (.agg ⟨tab 8 (partV i f)⟩))]) (fun i => i ≤ 8) (fun i => 8 - i) 0 (Nat.zero_le _)
    (sim_of (rn := [((1, 0, 0), (1, 0, 0)), ((2, 0, 0), (2, 0, 0)), ((3, 0, 0), (3, 0, 0))]) rfl ⟨rfl, rfl, rfl, rfl, trivial⟩ ⟨⟨_, _, rfl, rfl, rfl⟩, ⟨_, _, rfl, rfl, ?_⟩, ⟨_, _, rfl, rfl, ?_⟩, trivial⟩) ?_
  · rw [part_zero]; rfl
  · rw [part_zero]; rfl
  intro i hi
  conv => whnf
  cases h4 : decide ((i : Int) < 8)
  · have h8 : i = 8 := by simp at h4; omega
    subst h8
    conv => whnf
    refine ⟨by simp, ?_⟩
    conv => whnf
    refine ⟨by simp, ?_⟩
    conv => whnf
    refine ⟨by simp, ?_⟩
    refine ⟨by simp [splice], ?_⟩
    conv => whnf
    refine ⟨rfl, _, rfl, ?_⟩
    show D.v (.agg ⟨row8 f⟩) = D.v (.agg ⟨_⟩)
    refine congrArg (fun l => D.v (.agg ⟨l⟩)) (Eq.symm ?_)
    refine (copied (n := 8) (xs := tab 8 (partV 0 f)) (ys := tab 8 (partV 8 f)) (tab_length _ _) (tab_length _ _)).trans ?_
    rw [part_all]; rfl
  conv => whnf
  have h8 : i < 8 := by simp at h4; omega
  refine ⟨⟨by omega, by omega⟩, ?_⟩
  conv => whnf
  refine optK_of (row8_get (by simp) h8) ?_
  conv => whnf
  refine ⟨⟨by omega, by omega⟩, ?_⟩
  conv => whnf
  refine ⟨by simp; omega, ?_⟩
  conv => whnf
  have hkk : some (D.v (Value.int .i64 ((i + 1 : Nat) : Int))) = some (D.v (.int .i64 (IntKind.i64.wrap (i + 1)))) := by
    congr 1; exact vint (by rw [w64 (by omega) (by omega)]; omega)
  refine ⟨i + 1, by dsimp only; omega, by dsimp only; omega, sim_of (rn := [((1, 0, 0), (1, 0, 0)), ((2, 0, 0), (2, 0, 0)), ((3, 0, 0), (3, 0, 0))]) rfl ⟨rfl, rfl, rfl, hkk, trivial⟩ ⟨⟨_, _, rfl, rfl, rfl⟩, ⟨_, _, rfl, rfl, rfl⟩, ⟨_, _, rfl, rfl, ?_⟩, trivial⟩⟩
  show some (D.v (.agg ⟨(tab 8 (partV i f)).set (0 + (i : Int).toNat * 1) _⟩)) = _
  rw [show 0 + (i : Int).toNat * 1 = i by omega, part_set h8]

theorem toColours_sat (f : Nat → Int) : Sat Try.prog 14 [row8D f] (row8D f) := by
  refine sat_of_wp hMix tOk Try.func14 rfl rfl Try.ntmps14 rfl rfl Try.results14 (by kernel_rfl) ?_
  conv => whnf
  refine loop_rule (α := Nat) (fun i => [(1, .ptr (1, 0, 0) 0), (2, .ptr (2, 0, 0) 0), (3, .ptr (3, 0, 0) 0), (4, .v (.int .i64 i))])
    (fun i => [((1, 0, 0), row8D f), ((2, 0, 0), .v (.agg ⟨tab 8 (partV 0 f)⟩)), ((3, 0, 0), .v (.agg ⟨tab 8 (partV i f)⟩))]) (fun i => i ≤ 8) (fun i => 8 - i) 0 (Nat.zero_le _)
    (sim_of (rn := [((1, 0, 0), (1, 0, 0)), ((2, 0, 0), (2, 0, 0)), ((3, 0, 0), (3, 0, 0))]) rfl ⟨rfl, rfl, rfl, rfl, trivial⟩ ⟨⟨_, _, rfl, rfl, rfl⟩, ⟨_, _, rfl, rfl, ?_⟩, ⟨_, _, rfl, rfl, ?_⟩, trivial⟩) ?_
  · rw [part_zero]; rfl
  · rw [part_zero]; rfl
  intro i hi
  conv => whnf
  cases h4 : decide ((i : Int) < 8)
  · have h8 : i = 8 := by simp at h4; omega
    subst h8
    conv => whnf
    refine ⟨by simp, ?_⟩
    conv => whnf
    refine ⟨by simp, ?_⟩
    conv => whnf
    refine ⟨by simp, ?_⟩
    refine ⟨by simp [splice], ?_⟩
    conv => whnf
    refine ⟨rfl, _, rfl, ?_⟩
    show D.v (.agg ⟨row8 f⟩) = D.v (.agg ⟨_⟩)
    refine congrArg (fun l => D.v (.agg ⟨l⟩)) (Eq.symm ?_)
    refine (copied (n := 8) (xs := tab 8 (partV 0 f)) (ys := tab 8 (partV 8 f)) (tab_length _ _) (tab_length _ _)).trans ?_
    rw [part_all]; rfl
  conv => whnf
  have h8 : i < 8 := by simp at h4; omega
  refine ⟨⟨by omega, by omega⟩, ?_⟩
  conv => whnf
  refine optK_of (row8_get (by simp) h8) ?_
  conv => whnf
  refine ⟨⟨by omega, by omega⟩, ?_⟩
  conv => whnf
  refine ⟨by simp; omega, ?_⟩
  conv => whnf
  have hkk : some (D.v (Value.int .i64 ((i + 1 : Nat) : Int))) = some (D.v (.int .i64 (IntKind.i64.wrap (i + 1)))) := by
    congr 1; exact vint (by rw [w64 (by omega) (by omega)]; omega)
  refine ⟨i + 1, by dsimp only; omega, by dsimp only; omega, sim_of (rn := [((1, 0, 0), (1, 0, 0)), ((2, 0, 0), (2, 0, 0)), ((3, 0, 0), (3, 0, 0))]) rfl ⟨rfl, rfl, rfl, hkk, trivial⟩ ⟨⟨_, _, rfl, rfl, rfl⟩, ⟨_, _, rfl, rfl, rfl⟩, ⟨_, _, rfl, rfl, ?_⟩, trivial⟩⟩
  show some (D.v (.agg ⟨(tab 8 (partV i f)).set (0 + (i : Int).toNat * 1) _⟩)) = _
  rw [show 0 + (i : Int).toNat * 1 = i by omega, part_set h8]

theorem toByteA8A8_sat (t : Nat → Nat → Int) : Sat Try.prog 54 [gridD t] (gridD t) := by
  refine sat_of_wp hMix tOk Try.func54 rfl rfl Try.ntmps54 rfl rfl Try.results54 (by kernel_rfl) ?_
  conv => whnf
  refine loop_rule (α := Nat) (fun i => [(1, .ptr (1, 0, 0) 0), (2, .ptr (2, 0, 0) 0), (3, .ptr (3, 0, 0) 0), (4, .v (.int .i64 i))])
    (fun i => [((1, 0, 0), gridD t), ((2, 0, 0), .v (.agg ⟨tab 64 (partV 0 (flat t))⟩)), ((3, 0, 0), .v (.agg ⟨tab 64 (partV (i * 8) (flat t))⟩))]) (fun i => i ≤ 8) (fun i => 8 - i) 0 (Nat.zero_le _)
    (sim_of (rn := [((1, 0, 0), (1, 0, 0)), ((2, 0, 0), (2, 0, 0)), ((3, 0, 0), (3, 0, 0))]) rfl ⟨rfl, rfl, rfl, rfl, trivial⟩ ⟨⟨_, _, rfl, rfl, rfl⟩, ⟨_, _, rfl, rfl, ?_⟩, ⟨_, _, rfl, rfl, ?_⟩, trivial⟩) ?_
  · rw [part_zero]; rfl
  · rw [Nat.zero_mul, part_zero]; rfl
  intro i hi
  conv => whnf
  cases h4 : decide ((i : Int) < 8)
  · have h8 : i = 8 := by simp at h4; omega
    subst h8
    conv => whnf
    refine ⟨by simp, ?_⟩
    conv => whnf
    refine ⟨by simp, ?_⟩
    conv => whnf
    refine ⟨by simp, ?_⟩
    conv => whnf
    refine ⟨by simp [splice], ?_⟩
    conv => whnf
    refine ⟨rfl, _, rfl, ?_⟩
    show D.v (.agg ⟨grid t⟩) = D.v (.agg ⟨_⟩)
    refine congrArg (fun l => D.v (.agg ⟨l⟩)) (Eq.symm ?_)
    refine (copied (n := 64) (xs := tab 64 (partV 0 (flat t))) (ys := tab 64 (partV (8 * 8) (flat t))) (tab_length _ _) (tab_length _ _)).trans ?_
    exact part_all
  conv => whnf
  have h8 : i < 8 := by simp at h4; omega
  refine ⟨⟨by omega, by omega⟩, ?_⟩
  conv => whnf
  refine ⟨by simp; omega, ?_⟩
  conv => whnf
  have e : ((grid t).drop (0 + (i : Int).toNat * 8)).take 8 = row8 (t i) := grid_row (by omega) h8
  have e' : Sat Try.prog 66 [D.v (.agg ⟨((grid t).drop (0 + (i : Int).toNat * 8)).take 8⟩)] (row8D (t i)) := by rw [e]; exact toByteA8_sat (t i)
  refine ⟨_, _, rfl, e', ?_⟩
  conv => whnf
  refine ⟨⟨by omega, by omega⟩, ?_⟩
  conv => whnf
  refine ⟨by simp [row8D], ?_⟩
  conv => whnf
  refine ⟨by simp [row8D]; omega, ?_⟩
  conv => whnf
  have hkk : some (D.v (Value.int .i64 ((i + 1 : Nat) : Int))) = some (D.v (.int .i64 (IntKind.i64.wrap (i + 1)))) := by
    congr 1; exact vint (by rw [w64 (by omega) (by omega)]; omega)
  refine ⟨i + 1, by dsimp only; omega, by dsimp only; omega, sim_of (rn := [((1, 0, 0), (1, 0, 0)), ((2, 0, 0), (2, 0, 0)), ((3, 0, 0), (3, 0, 0))]) rfl ⟨rfl, rfl, rfl, hkk, trivial⟩ ⟨⟨_, _, rfl, rfl, rfl⟩, ⟨_, _, rfl, rfl, rfl⟩, ⟨_, _, rfl, rfl, ?_⟩, trivial⟩⟩
  show some (D.v (.agg ⟨splice (tab 64 (partV (i * 8) (flat t))) (0 + (i : Int).toNat * 8) (row8 (t i))⟩)) = _
  rw [show 0 + (i : Int).toNat * 8 = i * 8 by omega, grid_put rfl h8]

theorem toAges_sat (t : Nat → Nat → Int) : Sat Try.prog 19 [gridD t] (gridD t) := by
  refine sat_of_wp hMix tOk Try.func19 rfl rfl Try.ntmps19 rfl rfl Try.results19 (by kernel_rfl) ?_
  conv => whnf
  refine loop_rule (α := Nat) (fun i => [(1, .ptr (1, 0, 0) 0), (2, .ptr (2, 0, 0) 0), (3, .ptr (3, 0, 0) 0), (4, .v (.int .i64 i))])
    (fun i => [((1, 0, 0), gridD t), ((2, 0, 0), .v (.agg ⟨tab 64 (partV 0 (flat t))⟩)), ((3, 0, 0), .v (.agg ⟨tab 64 (partV (i * 8) (flat t))⟩))]) (fun i => i ≤ 8) (fun i => 8 - i) 0 (Nat.zero_le _)
    (sim_of (rn := [((1, 0, 0), (1, 0, 0)), ((2, 0, 0), (2, 0, 0)), ((3, 0, 0), (3, 0, 0))]) rfl ⟨rfl, rfl, rfl, rfl, trivial⟩ ⟨⟨_, _, rfl, rfl, rfl⟩, ⟨_, _, rfl, rfl, ?_⟩, ⟨_, _, rfl, rfl, ?_⟩, trivial⟩) ?_
  · rw [part_zero]; rfl
  · rw [Nat.zero_mul, part_zero]; rfl
  intro i hi
  conv => whnf
  cases h4 : decide ((i : Int) < 8)
  · have h8 : i = 8 := by simp at h4; omega
    subst h8
    conv => whnf
    refine ⟨by simp, ?_⟩
    conv => whnf
    refine ⟨by simp, ?_⟩
    conv => whnf
    refine ⟨by simp, ?_⟩
    conv => whnf
    refine ⟨by simp [splice], ?_⟩
    conv => whnf
    refine ⟨rfl, _, rfl, ?_⟩
    show D.v (.agg ⟨grid t⟩) = D.v (.agg ⟨_⟩)
    refine congrArg (fun l => D.v (.agg ⟨l⟩)) (Eq.symm ?_)
    refine (copied (n := 64) (xs := tab 64 (partV 0 (flat t))) (ys := tab 64 (partV (8 * 8) (flat t))) (tab_length _ _) (tab_length _ _)).trans ?_
    exact part_all
  conv => whnf
  have h8 : i < 8 := by simp at h4; omega
  refine ⟨⟨by omega, by omega⟩, ?_⟩
  conv => whnf
  refine ⟨by simp; omega, ?_⟩
  conv => whnf
  have e : ((grid t).drop (0 + (i : Int).toNat * 8)).take 8 = row8 (t i) := grid_row (by omega) h8
  have e' : Sat Try.prog 66 [D.v (.agg ⟨((grid t).drop (0 + (i : Int).toNat * 8)).take 8⟩)] (row8D (t i)) := by rw [e]; exact toByteA8_sat (t i)
  refine ⟨_, _, rfl, e', ?_⟩
  conv => whnf
  refine ⟨⟨by omega, by omega⟩, ?_⟩
  conv => whnf
  refine ⟨by simp [row8D], ?_⟩
  conv => whnf
  refine ⟨by simp [row8D]; omega, ?_⟩
  conv => whnf
  have hkk : some (D.v (Value.int .i64 ((i + 1 : Nat) : Int))) = some (D.v (.int .i64 (IntKind.i64.wrap (i + 1)))) := by
    congr 1; exact vint (by rw [w64 (by omega) (by omega)]; omega)
  refine ⟨i + 1, by dsimp only; omega, by dsimp only; omega, sim_of (rn := [((1, 0, 0), (1, 0, 0)), ((2, 0, 0), (2, 0, 0)), ((3, 0, 0), (3, 0, 0))]) rfl ⟨rfl, rfl, rfl, hkk, trivial⟩ ⟨⟨_, _, rfl, rfl, rfl⟩, ⟨_, _, rfl, rfl, rfl⟩, ⟨_, _, rfl, rfl, ?_⟩, trivial⟩⟩
  show some (D.v (.agg ⟨splice (tab 64 (partV (i * 8) (flat t))) (0 + (i : Int).toNat * 8) (row8 (t i))⟩)) = _
  rw [show 0 + (i : Int).toNat * 8 = i * 8 by omega, grid_put rfl h8]

theorem toRoof_sat (r : Roof) : Sat Try.prog 13 [roofD r] (roofD r) := by
  refine sat_of_wp hMix tOk Try.func13 rfl rfl Try.ntmps13 rfl rfl Try.results13 (by kernel_rfl) ?_
  conv => whnf
  refine ⟨by simp, ?_⟩
  conv => whnf
  refine ⟨by simp, ?_⟩
  conv => whnf
  refine ⟨by simp, ?_⟩
  conv => whnf
  refine ⟨by simp [roofC], ?_⟩
  conv => whnf
  have e : ((roofC r).drop (0 + 3)).take 64 = grid r.t := roof_grid r
  have e' : Sat Try.prog 54 [D.v (.agg ⟨((roofC r).drop (0 + 3)).take 64⟩)] (gridD r.t) := by rw [e]; exact toByteA8A8_sat r.t
  refine ⟨_, _, rfl, e', ?_⟩
  conv => whnf
  refine ⟨by simp [gridD], ?_⟩
  conv => whnf
  refine ⟨by simp [gridD], ?_⟩
  conv => whnf
  refine ⟨by simp [gridD, splice], ?_⟩
  conv => whnf
  refine ⟨by simp [gridD, splice], ?_⟩
  conv => whnf
  refine ⟨by simp [gridD, splice], ?_⟩
  conv => whnf
  refine ⟨by simp [gridD, splice], ?_⟩
  conv => whnf
  refine ⟨rfl, _, rfl, ?_⟩
  show D.v (.agg ⟨roofC r⟩) = D.v (.agg ⟨_⟩)
  refine congrArg (fun l => D.v (.agg ⟨l⟩)) (Eq.symm ?_)
  have hz : splice (.int .i8 r.w :: .int .i8 r.h :: .int .u8 r.s :: List.replicate 64 (.int .u8 0)) (0 + 3) (grid r.t) = roofC r := by simp [splice, roofC]
  have hl : (splice (.int .i8 r.w :: .int .i8 r.h :: .int .u8 r.s :: List.replicate 64 (.int .u8 0)) (0 + 3) (grid r.t)).length = 67 := by rw [hz]; simp [roofC]
  exact (copied (n := 67) (xs := [Value.int .i8 0, Value.int .i8 0] ++ List.replicate 65 (Value.int .u8 0)) (ys := splice (.int .i8 r.w :: .int .i8 r.h :: .int .u8 r.s :: List.replicate 64 (.int .u8 0)) (0 + 3) (grid r.t)) (by simp) hl).trans hz

end Go.Proofs.Ytndlknhakdadjaa
