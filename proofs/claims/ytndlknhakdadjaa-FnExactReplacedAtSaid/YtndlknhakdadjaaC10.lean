/- Contracts: by how many tiles colours differ, both sides, and the law. -/
import Derived.Test.YtndlknhakdadjaaC9
set_option linter.unusedVariables false
set_option linter.unusedSimpArgs false
namespace Go.V
def xorR (f g : Nat → Int) (i : Nat) : Int := IntKind.u8.wrap (BitVec.ofInt IntKind.u8.bits (f i) ^^^ BitVec.ofInt IntKind.u8.bits (g i)).toNat
theorem wrap8_range (n : Int) : 0 ≤ IntKind.u8.wrap n ∧ IntKind.u8.wrap n ≤ 255 := by
  simp [IntKind.wrap, IntKind.bits, IntKind.signed]
  omega
theorem xorR_in (f g : Nat → Int) : RowIn (xorR f g) := ⟨fun i => wrap8_range _⟩
def half (n : Nat) (x f : Nat → Int) : Nat → Value := fun k => .int .u8 (if k < n then x k else f k)
theorem half_zero (x f : Nat → Int) : tab 8 (half 0 x f) = row8 f := by
  apply tab_congr; intro i hi; simp [half]
theorem half_all (x f : Nat → Int) : tab 8 (half 8 x f) = row8 x := by
  apply tab_congr; intro i hi; simp [half, hi]
theorem half_get {n o : Nat} {x f : Nat → Int} (ho : o = n) (h : n < 8) : nth (tab 8 (half n x f)) o = some (.int .u8 (f n)) := by
  subst ho; rw [nth_tab h]; simp [half]
theorem half_set {n : Nat} {x f : Nat → Int} : (tab 8 (half n x f)).set n (.int .u8 (x n)) = tab 8 (half (n + 1) x f) := by
  rw [tab_set]
  apply tab_congr
  intro i hi
  simp only [half]
  by_cases h1 : i = n
  · subst h1; simp
  · rw [if_neg h1]
    by_cases h2 : i < n
    · rw [if_pos h2, if_pos (by omega)]
    · rw [if_neg h2, if_neg (by omega)]
end Go.V
namespace Go.Proofs.Ytndlknhakdadjaa
open Go.V
theorem l07Off_sat (f g : Nat → Int) (hf : RowIn f) (hg : RowIn g) : Sat Try.prog 53 [.ref false (row8D f) 0, .ref false (row8D g) 0] (.v (.int .i64 (cntC (xorR f g) 8))) := by
  have cc : Sat Try.prog 121 [.ref false (.v (.agg ⟨tab 8 (partV 8 (xorR f g))⟩)) 0] (.v (.int .i64 (cntC (xorR f g) 8))) := by
    rw [part_all]; exact l07Count_sat _ (xorR_in f g)
  refine sat_of_wp hMix tOk Try.func53 rfl rfl Try.ntmps53 rfl rfl Try.results53 (by kernel_rfl) ?_
  conv => whnf
  refine ⟨rfl, ?_⟩
  conv => whnf
  refine ⟨by decide, ?_⟩
  conv => whnf
  refine loop_rule (α := Nat) (fun i => [(0, .ref false (row8D f) 0), (1, .ref false (row8D g) 0), (5, .ptr (5, 0, 0) 0), (6, .v (.int .i64 i))]) (fun i => [((5, 0, 0), .v (.agg ⟨tab 8 (partV i (xorR f g))⟩))]) (fun i => i ≤ 8) (fun i => 8 - i) 0 (Nat.zero_le _)
    (sim_of (rn := [((5, 0, 0), (5, 0, 0))]) rfl ⟨rfl, rfl, rfl, rfl, trivial⟩ ⟨⟨_, _, rfl, rfl, ?_⟩, trivial⟩) ?_
  · rw [part_zero]; rfl
  intro i hi
  conv => whnf
  cases h4 : decide ((i : Int) < 8)
  · have h8 : i = 8 := by simp at h4; omega
    subst h8
    conv => whnf
    refine ⟨_, _, rfl, cc, ?_⟩
    exact ⟨rfl, _, rfl, rfl⟩
  conv => whnf
  have h8 : i < 8 := by simp at h4; omega
  refine ⟨⟨by omega, by omega⟩, ?_⟩
  conv => whnf
  refine optK_of (row8_get (k := i) (by simp) h8) ?_
  conv => whnf
  refine ⟨⟨by omega, by omega⟩, ?_⟩
  conv => whnf
  refine optK_of (row8_get (k := i) (by simp) h8) ?_
  conv => whnf
  refine ⟨⟨by omega, by omega⟩, ?_⟩
  conv => whnf
  refine ⟨by simp; omega, ?_⟩
  conv => whnf
  refine ⟨i + 1, by dsimp only; omega, by dsimp only; omega, sim_of (rn := [((5, 0, 0), (5, 0, 0))]) rfl ⟨rfl, rfl, rfl, succ64 (by omega), trivial⟩ ⟨⟨_, _, rfl, rfl, ?_⟩, trivial⟩⟩
  show some (D.v (.agg ⟨(tab 8 (partV i (xorR f g))).set (0 + (i : Int).toNat * 1) (.int .u8 (xorR f g i))⟩)) = _
  rw [show 0 + (i : Int).toNat * 1 = i by omega, part_set h8]

theorem off_sat (f g : Nat → Int) (hf : RowIn f) (hg : RowIn g) : Sat Try.prog 58 [row8D f, row8D g] (.v (.int .i64 (cntC (xorR f g) 8))) := by
  have cc : Sat Try.prog 127 [.v (.agg ⟨((tab 8 (half 8 (xorR f g) f)).drop 0).take 8⟩)] (.v (.int .i64 (cntC (xorR f g) 8))) := by
    rw [half_all, take_drop0 (by simp)]; exact count_sat _ (xorR_in f g)
  refine sat_of_wp hMix tOk Try.func58 rfl rfl Try.ntmps58 rfl rfl Try.results58 (by kernel_rfl) ?_
  conv => whnf
  refine loop_rule (α := Nat) (fun i => [(2, .ptr (2, 0, 0) 0), (3, .ptr (3, 0, 0) 0), (6, .v (.int .i64 i))]) (fun i => [((2, 0, 0), .v (.agg ⟨tab 8 (half i (xorR f g) f)⟩)), ((3, 0, 0), row8D g)]) (fun i => i ≤ 8) (fun i => 8 - i) 0 (Nat.zero_le _)
    (sim_of (rn := [((2, 0, 0), (2, 0, 0)), ((3, 0, 0), (3, 0, 0))]) rfl ⟨rfl, rfl, rfl, trivial⟩ ⟨⟨_, _, rfl, rfl, ?_⟩, ⟨_, _, rfl, rfl, rfl⟩, trivial⟩) ?_
  · rw [half_zero]; rfl
  intro i hi
  conv => whnf
  cases h4 : decide ((i : Int) < 8)
  · have h8 : i = 8 := by simp at h4; omega
    subst h8
    conv => whnf
    refine ⟨by simp, ?_⟩
    conv => whnf
    refine ⟨_, _, rfl, cc, ?_⟩
    exact ⟨rfl, _, rfl, rfl⟩
  conv => whnf
  have h8 : i < 8 := by simp at h4; omega
  refine ⟨⟨by omega, by omega⟩, ?_⟩
  conv => whnf
  refine optK_of (half_get (n := i) (by simp) h8) ?_
  conv => whnf
  refine ⟨⟨by omega, by omega⟩, ?_⟩
  conv => whnf
  refine optK_of (row8_get (k := i) (by simp) h8) ?_
  conv => whnf
  refine ⟨⟨by omega, by omega⟩, ?_⟩
  conv => whnf
  refine ⟨by simp; omega, ?_⟩
  conv => whnf
  refine ⟨i + 1, by dsimp only; omega, by dsimp only; omega, sim_of (rn := [((2, 0, 0), (2, 0, 0)), ((3, 0, 0), (3, 0, 0))]) rfl ⟨rfl, rfl, succ64 (by omega), trivial⟩ ⟨⟨_, _, rfl, rfl, ?_⟩, ⟨_, _, rfl, rfl, rfl⟩, trivial⟩⟩
  show some (D.v (.agg ⟨(tab 8 (half i (xorR f g) f)).set (0 + (i : Int).toNat * 1) (.int .u8 (xorR f g i))⟩)) = _
  rw [show 0 + (i : Int).toNat * 1 = i by omega, half_set]

def offV (r : Roof) (f g : Nat → Int) : D := .tup [.v (.int .i64 (if okC r f = true ∧ okC r g = true then cntC (xorR f g) 8 else 0)), .v (.int .i64 (if okC r f = true ∧ okC r g = true then 0 else 1))]

end Go.Proofs.Ytndlknhakdadjaa
