/- Contracts: mirrored colours, the program's side, and the law. -/
import Derived.Test.YtlpgfemmbnkaiaaC6
set_option linter.unusedVariables false
set_option linter.unusedSimpArgs false
namespace Go.V
theorem mirOut_zero {r : Roof} {f : Nat → Int} (h1 : okC r f = false) : row8 (mirOut r f) = List.replicate 8 (.int .u8 0) := by
  rw [← part_zero 8 f]
  apply tab_congr
  intro i hi
  simp [mirOut, partV, h1]
theorem mirOut_ok {r : Roof} {f : Nat → Int} (h1 : okC r f = true) : row8 (mirOut r f) = row8 (mir r f) := by
  apply tab_congr
  intro i hi
  simp [mirOut, h1]
end Go.V
namespace Go.Proofs.Ytlpgfemmbnkaiaa
open Go.V
theorem mirror_sat (r : Roof) (hr : r.In) (f : Nat → Int) (hf : RowIn f) : Sat Try.prog 29 [roofD r, row8D f] (.tup [row8D (mirOut r f), .v (.int .i64 (if okC r f = true then 0 else 1))]) := by
  have e0 : ((roofC r).drop 0).take 67 = roofC r := take_drop0 (by simp [roofC])
  have e1 : ((row8 f).drop 0).take 8 = row8 f := take_drop0 (by simp)
  have cv : Sat Try.prog 24 [D.v (.agg ⟨((roofC r).drop 0).take 67⟩), D.v (.agg ⟨((row8 f).drop 0).take 8⟩)] (.v (.bool (okC r f))) := by rw [e0, e1]; exact validColours_sat r hr f hf
  refine sat_of_wp hMix tOk Try.func29 rfl rfl Try.ntmps29 rfl rfl Try.results29 (by kernel_rfl) ?_
  conv => whnf
  refine ⟨by simp [roofC], ?_⟩
  conv => whnf
  refine ⟨by simp, ?_⟩
  conv => whnf
  refine ⟨_, _, rfl, cv, ?_⟩
  conv => whnf
  cases h1 : okC r f
  · conv => whnf
    refine ⟨rfl, ?_⟩
    conv => whnf
    refine ⟨by decide, ?_⟩
    conv => whnf
    refine ⟨by decide, ?_⟩
    conv => whnf
    refine ⟨rfl, _, rfl, ?_⟩
    show D.tup [.v (.agg ⟨row8 (mirOut r f)⟩), .v (.int .i64 (if false = true then 0 else 1))] = _
    rw [mirOut_zero h1]; rfl
  have hb := h1
  simp only [okC, Bool.and_eq_true] at hb
  replace hb := okR_bounds hb.1
  conv => whnf
  refine ⟨by simp, ?_⟩
  conv => whnf
  refine loop_rule (α := Nat) (fun i => [(2, .ptr (2, 0, 0) 0), (4, .ptr (4, 0, 0) 0), (6, .ptr (6, 0, 0) 0), (14, row8D f), (15, .v (.int .i64 i))])
    (fun i => [((2, 0, 0), roofD r), ((4, 0, 0), .v (.agg ⟨List.replicate 8 (.int .u8 0)⟩)), ((6, 0, 0), .v (.agg ⟨tab 8 (partV i (mir r f))⟩))]) (fun i => i ≤ 8) (fun i => 8 - i) 0 (Nat.zero_le _)
    (sim_of (rn := [((2, 0, 0), (2, 0, 0)), ((4, 0, 0), (4, 0, 0)), ((6, 0, 0), (6, 0, 0))]) rfl ⟨rfl, rfl, rfl, ?_, rfl, trivial⟩ ⟨⟨_, _, rfl, rfl, rfl⟩, ⟨_, _, rfl, rfl, rfl⟩, ⟨_, _, rfl, rfl, ?_⟩, trivial⟩) ?_
  · show some (D.v (.agg ⟨row8 f⟩)) = some (D.v (.agg ⟨((row8 f).drop 0).take 8⟩))
    rw [e1]
  · rw [part_zero]; rfl
  intro i hi
  conv => whnf
  cases h4 : decide ((i : Int) < 8)
  · have h8 : i = 8 := by simp at h4; omega
    subst h8
    conv => whnf
    refine ⟨by simp, ?_⟩
    conv => whnf
    refine ⟨by simp, ?_⟩
    conv => whnf
    refine ⟨by simp, ?_⟩
    conv => whnf
    refine ⟨by simp [splice], ?_⟩
    conv => whnf
    refine ⟨rfl, _, rfl, ?_⟩
    show D.tup [.v (.agg ⟨row8 (mirOut r f)⟩), .v (.int .i64 (if true = true then 0 else 1))] = _
    refine congrArg (fun l => D.tup [.v (.agg ⟨l⟩), .v (.int .i64 0)]) (Eq.symm ?_)
    refine (copied (n := 8) (xs := List.replicate 8 (.int .u8 0)) (ys := tab 8 (partV 8 (mir r f))) (by simp) (tab_length _ _)).trans ?_
    rw [mirOut_ok h1, part_all]; rfl
  conv => whnf
  have h8 : i < 8 := by simp at h4; omega
  refine ⟨⟨by omega, by omega⟩, ?_⟩
  conv => whnf
  refine optK_of (row8_get (k := i) (by simp) h8) ?_
  conv => whnf
  have ht := hf.t i
  refine ⟨_, _, rfl, reverse8_sat (f i) ht.1 ht.2, ?_⟩
  conv => whnf
  have d1 : IntKind.i8.wrap (8 - r.w) = 8 - r.w := w8 (by omega) (by omega)
  rw [d1]
  refine ⟨by omega, ?_⟩
  conv => whnf
  refine ⟨⟨by omega, by omega⟩, ?_⟩
  conv => whnf
  refine ⟨by simp; omega, ?_⟩
  conv => whnf
  refine ⟨i + 1, by dsimp only; omega, by dsimp only; omega, sim_of (rn := [((2, 0, 0), (2, 0, 0)), ((4, 0, 0), (4, 0, 0)), ((6, 0, 0), (6, 0, 0))]) rfl ⟨rfl, rfl, rfl, rfl, succ64 (by omega), trivial⟩ ⟨⟨_, _, rfl, rfl, rfl⟩, ⟨_, _, rfl, rfl, rfl⟩, ⟨_, _, rfl, rfl, ?_⟩, trivial⟩⟩
  show some (D.v (.agg ⟨(tab 8 (partV i (mir r f))).set (0 + (i : Int).toNat * 1) (.int .u8 (mir r f i))⟩)) = _
  rw [show 0 + (i : Int).toNat * 1 = i by omega, part_set h8]

theorem fnExactMirrorColours_sat (r : Roof) (hr : r.In) (f : Nat → Int) (hf : RowIn f) : Sat Try.prog 6 [roofD r, row8D f] (.v (.bool true)) := by
  have e0 : ((roofC r).drop 0).take 67 = roofC r := take_drop0 (by simp [roofC])
  have e1 : ((row8 f).drop 0).take 8 = row8 f := take_drop0 (by simp)
  have cr : Sat Try.prog 22 [D.v (.agg ⟨((roofC r).drop 0).take 67⟩)] (roofD r) := by rw [e0]; exact toRoof_sat r
  have ca : Sat Try.prog 23 [D.v (.agg ⟨((row8 f).drop 0).take 8⟩)] (row8D f) := by rw [e1]; exact toColours_sat f
  refine sat_of_wp hMix tOk Try.func6 rfl rfl Try.ntmps6 rfl rfl Try.results6 (by kernel_rfl) ?_
  conv => whnf
  refine ⟨by simp [roofC], ?_⟩
  conv => whnf
  refine ⟨_, _, rfl, cr, ?_⟩
  conv => whnf
  refine ⟨by simp [row8D], ?_⟩
  conv => whnf
  refine ⟨_, _, rfl, ca, ?_⟩
  conv => whnf
  refine ⟨_, _, rfl, specMirror_sat r hr f hf, ?_⟩
  conv => whnf
  refine ⟨by simp, ?_⟩
  conv => whnf
  refine ⟨by simp, ?_⟩
  conv => whnf
  refine ⟨by simp [roofC], ?_⟩
  conv => whnf
  refine ⟨_, _, rfl, cr, ?_⟩
  conv => whnf
  refine ⟨by simp [row8D], ?_⟩
  conv => whnf
  refine ⟨_, _, rfl, ca, ?_⟩
  conv => whnf
  refine ⟨_, _, rfl, mirror_sat r hr f hf, ?_⟩
  conv => whnf
  refine ⟨by simp, ?_⟩
  conv => whnf
  refine ⟨by simp, ?_⟩
  conv => whnf
  refine ⟨by simp [splice], ?_⟩
  conv => whnf
  refine ⟨by simp [splice], ?_⟩
  conv => whnf
  have ec : ((splice (List.replicate 8 (.int .u8 0)) 0 (row8 (mirOut r f))).drop 0).take 8 = row8 (mirOut r f) := by
    rw [splice_all (by simp), take_drop0 (by simp)]
  have ce : Sat Try.prog 30 [D.v (.agg ⟨((splice (List.replicate 8 (.int .u8 0)) 0 (row8 (mirOut r f))).drop 0).take 8⟩), D.v (.agg ⟨((splice (List.replicate 8 (.int .u8 0)) 0 (row8 (mirOut r f))).drop 0).take 8⟩)] (.v (.bool true)) := by
    rw [ec]; exact eqColours_same _
  refine ⟨_, _, rfl, ce, ?_⟩
  conv => whnf
  cases okC r f <;> exact ⟨rfl, _, rfl, rfl⟩
end Go.Proofs.Ytlpgfemmbnkaiaa
