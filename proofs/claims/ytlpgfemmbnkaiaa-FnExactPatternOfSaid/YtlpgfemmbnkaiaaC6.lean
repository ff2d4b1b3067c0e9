/- Contracts: mirrored colours, both sides. -/
import Derived.Test.YtlpgfemmbnkaiaaC5
set_option linter.unusedVariables false
set_option linter.unusedSimpArgs false
namespace Go.V
/-- The eight bits of a byte, turned round. -/
def bitI (x : Int) (k : Nat) : Int := (x / 2 ^ k) % 2
def rev8 (x : Int) : Int := bitI x 0 * 128 + bitI x 1 * 64 + bitI x 2 * 32 + bitI x 3 * 16 + bitI x 4 * 8 + bitI x 5 * 4 + bitI x 6 * 2 + bitI x 7
def orU8 (a b : Int) : Int := IntKind.u8.wrap (BitVec.ofInt IntKind.u8.bits a ||| BitVec.ofInt IntKind.u8.bits b).toNat
def mirS (x : Int) (w : Nat) : Nat → Int
  | 0 => 0
  | k + 1 => if ((x.fdiv (2 ^ (min k IntKind.u8.bits))).tmod 2 == 1) = true then orU8 (mirS x w k) (IntKind.u8.wrap (1 * 2 ^ (min (w - 1 - k) IntKind.u8.bits))) else mirS x w k
/-- What mirroring makes of one course. -/
def mir (r : Roof) (f : Nat → Int) (i : Nat) : Int := (rev8 (f i)).fdiv (2 ^ (min (8 - r.w).toNat IntKind.u8.bits))
theorem mir_fact : ∀ w : Nat, w < 9 → ∀ x : Nat, x < 256 → shrI x w = 0 → 0 < w → mirS x w w = (rev8 x).fdiv (2 ^ (min (8 - w) IntKind.u8.bits)) := by decide +kernel
theorem eq_toNat {x : Int} (h : 0 ≤ x) : ∃ n : Nat, x = n := ⟨x.toNat, by omega⟩
def mrow (r : Roof) (f : Nat → Int) (c k : Nat) : Nat → Value := fun i => .int .u8 (if i < c then mirS (f i) r.w.toNat r.w.toNat else if i = c then mirS (f i) r.w.toNat k else 0)
def mirOut (r : Roof) (f : Nat → Int) (i : Nat) : Int := if okC r f = true then mir r f i else 0
theorem mrow_zero (r : Roof) (f : Nat → Int) : tab 8 (mrow r f 0 0) = List.replicate 8 (.int .u8 0) := by
  rw [← part_zero 8 f]
  apply tab_congr
  intro i hi
  simp only [mrow, partV, mirS]
  simp
theorem mrow_next (r : Roof) (f : Nat → Int) (c : Nat) : tab 8 (mrow r f c r.w.toNat) = tab 8 (mrow r f (c + 1) 0) := by
  apply tab_congr
  intro i hi
  simp only [mrow, mirS]
  by_cases h : i < c
  · rw [if_pos h, if_pos (by omega)]
  · rw [if_neg h]
    by_cases h2 : i = c
    · rw [if_pos h2, if_pos (by omega)]
    · rw [if_neg h2, if_neg (by omega)]; simp
theorem mrow_get {r : Roof} {f : Nat → Int} {c k o : Nat} (ho : o = c) (hc : c < 8) : nth (tab 8 (mrow r f c k)) o = some (.int .u8 (mirS (f c) r.w.toNat k)) := by
  subst ho
  rw [nth_tab hc]
  simp [mrow]
theorem mrow_set {r : Roof} {f : Nat → Int} {c k : Nat} {x : Int} (hx : x = mirS (f c) r.w.toNat (k + 1)) : (tab 8 (mrow r f c k)).set c (.int .u8 x) = tab 8 (mrow r f c (k + 1)) := by
  subst hx
  rw [tab_set]
  apply tab_congr
  intro i hi
  simp only [mrow]
  by_cases h : i = c
  · subst h; simp
  · rw [if_neg h]; simp [h]
theorem mrow_done {r : Roof} {f : Nat → Int} (hf : RowIn f) (hok : okC r f = true) (hb : 1 ≤ r.w ∧ r.w ≤ 8) : tab 8 (mrow r f r.h.toNat 0) = row8 (mirOut r f) := by
  apply tab_congr
  intro i hi
  simp only [okC, Bool.and_eq_true, List.all_eq_true, List.mem_range] at hok
  have hc := hok.2 i hi
  simp only [colOk, Bool.and_eq_true, Bool.or_eq_true, beq_iff_eq, decide_eq_true_eq] at hc
  have hr := hf.t i
  obtain ⟨n, hn⟩ := eq_toNat hr.1
  obtain ⟨w, hw⟩ := eq_toNat (show 0 ≤ r.w by omega)
  have main : mirS (f i) w w = (rev8 (f i)).fdiv (2 ^ (min (8 - w) IntKind.u8.bits)) := by
    rw [hn]
    refine mir_fact w (by omega) n (by omega) ?_ (by omega)
    rw [← hn, ← hw]; exact hc.1
  have hok' : okC r f = true := by
    simp only [okC, Bool.and_eq_true, List.all_eq_true, List.mem_range]; exact hok
  simp only [mrow, mirOut, hok', if_true, mir, hw, mirS]
  rw [show ((8 : Int) - (w : Int)).toNat = 8 - w by omega, ← main]
  simp only [Int.toNat_natCast]
  by_cases h : i < r.h.toNat
  · rw [if_pos h]
  · rw [if_neg h]
    have : f i = 0 := by omega
    have hz : mirS 0 w w = 0 := by
      have := mir_fact w (by omega) 0 (by omega) (by unfold shrI; simp) (by omega)
      refine Eq.trans this ?_
      have : rev8 ((0 : Nat) : Int) = 0 := by decide
      rw [this]; simp
    rw [this, hz]; simp
end Go.V
namespace Go.Proofs.Ytlpgfemmbnkaiaa
open Go.V
theorem reverse8_sat (x : Int) (h0 : 0 ≤ x) (h1 : x ≤ 255) : Sat Try.prog 75 [.v (.int .u8 x)] (.v (.int .u8 (rev8 x))) := by
  refine sat_of_wp hMix tOk Try.func75 rfl rfl Try.ntmps75 rfl rfl Try.results75 (by kernel_rfl) ?_
  conv => whnf
  refine ⟨⟨h0, Int.lt_of_lt_of_le (show x < 256 by omega) (by decide +kernel)⟩, ?_⟩
  conv => whnf
  refine ⟨rfl, _, rfl, ?_⟩
  refine vint ?_
  obtain ⟨n, rfl⟩ := eq_toNat h0
  have hn : n < 256 := by omega
  clear h0 h1
  revert n
  decide +kernel

theorem eqColours_same (f : Nat → Int) : Sat Try.prog 30 [row8D f, row8D f] (.v (.bool true)) := by
  refine sat_of_wp hMix tOk Try.func30 rfl rfl Try.ntmps30 rfl rfl Try.results30 (by kernel_rfl) ?_
  conv => whnf
  refine loop_rule (α := Nat) (fun i => [(2, .ptr (2, 0, 0) 0), (3, .ptr (3, 0, 0) 0), (5, .v (.int .i64 i))]) (fun i => [((2, 0, 0), row8D f), ((3, 0, 0), row8D f)]) (fun i => i ≤ 8) (fun i => 8 - i) 0 (Nat.zero_le _)
    (sim_of (rn := [((2, 0, 0), (2, 0, 0)), ((3, 0, 0), (3, 0, 0))]) rfl ⟨rfl, rfl, rfl, trivial⟩ ⟨⟨_, _, rfl, rfl, rfl⟩, ⟨_, _, rfl, rfl, rfl⟩, trivial⟩) ?_
  intro i hi
  conv => whnf
  cases h4 : decide ((i : Int) < 8)
  · exact ⟨rfl, _, rfl, rfl⟩
  conv => whnf
  have h8 : i < 8 := by simp at h4; omega
  refine ⟨⟨by omega, by omega⟩, ?_⟩
  conv => whnf
  refine optK_of (row8_get (k := i) (by simp) h8) ?_
  conv => whnf
  refine ⟨⟨by omega, by omega⟩, ?_⟩
  conv => whnf
  refine optK_of (row8_get (k := i) (by simp) h8) ?_
  conv => whnf
  have : (f i != f i) = false := by simp
  rw [this]
  conv => whnf
  exact ⟨i + 1, by dsimp only; omega, by dsimp only; omega, sim_of (rn := [((2, 0, 0), (2, 0, 0)), ((3, 0, 0), (3, 0, 0))]) rfl ⟨rfl, rfl, succ64 (by omega), trivial⟩ ⟨⟨_, _, rfl, rfl, rfl⟩, ⟨_, _, rfl, rfl, rfl⟩, trivial⟩⟩

theorem specMirror_sat (r : Roof) (hr : r.In) (f : Nat → Int) (hf : RowIn f) : Sat Try.prog 28 [roofD r, row8D f] (.tup [row8D (mirOut r f), .v (.int .i64 (if okC r f = true then 0 else 1))]) := by
  refine sat_of_wp hMix tOk Try.func28 rfl rfl Try.ntmps28 rfl rfl Try.results28 (by kernel_rfl) ?_
  conv => whnf
  refine ⟨_, _, rfl, l07Colours_sat r hr f hf, ?_⟩
  conv => whnf
  cases h1 : okC r f
  · conv => whnf
    refine ⟨rfl, ?_⟩
    conv => whnf
    refine ⟨by decide, ?_⟩
    conv => whnf
    refine ⟨by decide, ?_⟩
    conv => whnf
    refine ⟨rfl, _, rfl, ?_⟩
    have hz : row8 (mirOut r f) = List.replicate 8 (.int .u8 0) := by
      rw [← part_zero 8 f]
      apply tab_congr
      intro i hi
      simp [mirOut, partV, h1]
    show D.tup [.v (.agg ⟨row8 (mirOut r f)⟩), .v (.int .i64 (if false = true then 0 else 1))] = _
    rw [hz]; rfl
  have hb := h1
  simp only [okC, Bool.and_eq_true] at hb
  replace hb := okR_bounds hb.1
  have e3 : IntKind.i64.wrap r.h = r.h := w64 (by omega) (by omega)
  conv => whnf
  refine ⟨rfl, ?_⟩
  conv => whnf
  refine ⟨by decide, ?_⟩
  conv => whnf
  refine loop_rule (α := Nat) (fun c => [(2, .ptr (2, 0, 0) 0), (3, .ptr (3, 0, 0) 0), (4, .ptr (4, 0, 0) 0), (6, .ptr (6, 0, 0) 0), (7, .v (.int .i64 c))])
    (fun c => [((2, 0, 0), roofD r), ((3, 0, 0), row8D f), ((4, 0, 0), .v (.agg ⟨List.replicate 8 (.int .u8 0)⟩)), ((6, 0, 0), .v (.agg ⟨tab 8 (mrow r f c 0)⟩))]) (fun c => c ≤ r.h.toNat) (fun c => 8 - c) 0 (Nat.zero_le _)
    (sim_of (rn := [((2, 0, 0), (2, 0, 0)), ((3, 0, 0), (3, 0, 0)), ((4, 0, 0), (4, 0, 0)), ((6, 0, 0), (6, 0, 0))]) rfl ⟨rfl, rfl, rfl, rfl, rfl, trivial⟩ ⟨⟨_, _, rfl, rfl, rfl⟩, ⟨_, _, rfl, rfl, rfl⟩, ⟨_, _, rfl, rfl, rfl⟩, ⟨_, _, rfl, rfl, ?_⟩, trivial⟩) ?_
  · rw [mrow_zero]; rfl
  intro c hc
  conv => whnf
  rw [e3]
  cases h4 : decide ((c : Int) < r.h)
  · have h8 : c = r.h.toNat := by simp at h4; omega
    subst h8
    conv => whnf
    refine ⟨by simp, ?_⟩
    conv => whnf
    refine ⟨by simp, ?_⟩
    conv => whnf
    refine ⟨by simp, ?_⟩
    conv => whnf
    refine ⟨by simp [splice], ?_⟩
    conv => whnf
    refine ⟨rfl, _, rfl, ?_⟩
    show D.tup [.v (.agg ⟨row8 (mirOut r f)⟩), .v (.int .i64 (if true = true then 0 else 1))] = _
    refine congrArg (fun l => D.tup [.v (.agg ⟨l⟩), .v (.int .i64 0)]) (Eq.symm ?_)
    refine (copied (n := 8) (xs := List.replicate 8 (.int .u8 0)) (ys := tab 8 (mrow r f r.h.toNat 0)) (by simp) (tab_length _ _)).trans ?_
    exact mrow_done hf h1 hb.1
  conv => whnf
  have hch : (c : Int) < r.h := by simpa using h4
  have h8 : c < 8 := by omega
  refine loop_rule (α := Nat) (fun k => [(2, .ptr (2, 0, 0) 0), (3, .ptr (3, 0, 0) 0), (4, .ptr (4, 0, 0) 0), (6, .ptr (6, 0, 0) 0), (7, .v (.int .i64 c)), (8, .v (.int .i8 k))])
    (fun k => [((2, 0, 0), roofD r), ((3, 0, 0), row8D f), ((4, 0, 0), .v (.agg ⟨List.replicate 8 (.int .u8 0)⟩)), ((6, 0, 0), .v (.agg ⟨tab 8 (mrow r f c k)⟩))]) (fun k => k ≤ r.w.toNat) (fun k => 8 - k) 0 (Nat.zero_le _)
    (sim_of (rn := [((2, 0, 0), (2, 0, 0)), ((3, 0, 0), (3, 0, 0)), ((4, 0, 0), (4, 0, 0)), ((6, 0, 0), (6, 0, 0))]) rfl ⟨rfl, rfl, rfl, rfl, rfl, rfl, trivial⟩ ⟨⟨_, _, rfl, rfl, rfl⟩, ⟨_, _, rfl, rfl, rfl⟩, ⟨_, _, rfl, rfl, rfl⟩, ⟨_, _, rfl, rfl, rfl⟩, trivial⟩) ?_
  intro k hk
  conv => whnf
  cases h5 : decide ((k : Int) < r.w)
  · have hkw : k = r.w.toNat := by simp at h5; omega
    subst hkw
    conv => whnf
    refine ⟨c + 1, by dsimp only; omega, by dsimp only; omega, sim_of (rn := [((2, 0, 0), (2, 0, 0)), ((3, 0, 0), (3, 0, 0)), ((4, 0, 0), (4, 0, 0)), ((6, 0, 0), (6, 0, 0))]) rfl ⟨rfl, rfl, rfl, rfl, succ64 (by omega), trivial⟩ ⟨⟨_, _, rfl, rfl, rfl⟩, ⟨_, _, rfl, rfl, rfl⟩, ⟨_, _, rfl, rfl, rfl⟩, ⟨_, _, rfl, rfl, ?_⟩, trivial⟩⟩
    rw [← mrow_next]; rfl
  conv => whnf
  have hkw : (k : Int) < r.w := by simpa using h5
  refine ⟨⟨by omega, by omega⟩, ?_⟩
  conv => whnf
  refine optK_of (row8_get (k := c) (by simp) h8) ?_
  conv => whnf
  have ek : IntKind.u64.wrap (k : Int) = k := wu64 (by omega) (by omega)
  rw [ek]
  refine ⟨by omega, ?_⟩
  conv => whnf
  refine ⟨by decide, ?_⟩
  conv => whnf
  rw [Int.toNat_natCast]
  cases h6 : ((f c).fdiv (2 ^ min k IntKind.u8.bits)).tmod 2 == 1
  · conv => whnf
    refine ⟨k + 1, by dsimp only; omega, by dsimp only; omega, sim_of (rn := [((2, 0, 0), (2, 0, 0)), ((3, 0, 0), (3, 0, 0)), ((4, 0, 0), (4, 0, 0)), ((6, 0, 0), (6, 0, 0))]) rfl ⟨rfl, rfl, rfl, rfl, rfl, succ8 (by omega), trivial⟩ ⟨⟨_, _, rfl, rfl, rfl⟩, ⟨_, _, rfl, rfl, rfl⟩, ⟨_, _, rfl, rfl, rfl⟩, ⟨_, _, rfl, rfl, ?_⟩, trivial⟩⟩
    show some (D.v (.agg ⟨tab 8 (mrow r f c k)⟩)) = some (D.v (.agg ⟨tab 8 (mrow r f c (k + 1))⟩))
    have : mirS (f c) r.w.toNat (k + 1) = mirS (f c) r.w.toNat k := by
      simp only [mirS, h6]; simp
    congr 3
    congr 1
    apply tab_congr
    intro i _
    simp only [mrow]
    by_cases hi : i = c
    · subst hi; rw [this]
    · simp [hi]
  conv => whnf
  refine ⟨⟨by omega, by omega⟩, ?_⟩
  conv => whnf
  refine optK_of (mrow_get (c := c) (by simp) h8) ?_
  conv => whnf
  have d1 : IntKind.i8.wrap (r.w - 1) = r.w - 1 := w8 (by omega) (by omega)
  have d2 : IntKind.i8.wrap (r.w - 1 - (k : Int)) = r.w - 1 - k := w8 (by omega) (by omega)
  have d3 : IntKind.u64.wrap (r.w - 1 - (k : Int)) = r.w - 1 - k := wu64 (by omega) (by omega)
  rw [d1, d2, d3]
  refine ⟨by omega, ?_⟩
  conv => whnf
  refine ⟨⟨by omega, by omega⟩, ?_⟩
  conv => whnf
  refine ⟨by simp; omega, ?_⟩
  conv => whnf
  refine ⟨k + 1, by dsimp only; omega, by dsimp only; omega, sim_of (rn := [((2, 0, 0), (2, 0, 0)), ((3, 0, 0), (3, 0, 0)), ((4, 0, 0), (4, 0, 0)), ((6, 0, 0), (6, 0, 0))]) rfl ⟨rfl, rfl, rfl, rfl, rfl, succ8 (by omega), trivial⟩ ⟨⟨_, _, rfl, rfl, rfl⟩, ⟨_, _, rfl, rfl, rfl⟩, ⟨_, _, rfl, rfl, rfl⟩, ⟨_, _, rfl, rfl, ?_⟩, trivial⟩⟩
  show some (D.v (.agg ⟨(tab 8 (mrow r f c k)).set (0 + (c : Int).toNat * 1) _⟩)) = _
  rw [show 0 + (c : Int).toNat * 1 = c by omega, mrow_set]
  simp only [mirS, h6, if_true]
  rw [show r.w.toNat - 1 - k = (r.w - 1 - (k : Int)).toNat by omega]
  rfl
end Go.Proofs.Ytlpgfemmbnkaiaa
