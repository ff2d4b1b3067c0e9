/- Contracts: mirrored colours, both sides. -/
import Derived.Test.YtndlknhakdadjaaC5
set_option linter.unusedVariables false
set_option linter.unusedSimpArgs false
namespace Go.V
/-- The eight bits of a byte, turned round. -/
def bitI (x : Int) (k : Nat) : Int := (x / 2 ^ k) % 2
def rev8 (x : Int) : Int := bitI x 0 * 128 + bitI x 1 * 64 + bitI x 2 * 32 + bitI x 3 * 16 + bitI x 4 * 8 + bitI x 5 * 4 + bitI x 6 * 2 + bitI x 7
def orU8 (a b : Int) : Int := IntKind.u8.wrap (BitVec.ofInt IntKind.u8.bits a ||| BitVec.ofInt IntKind.u8.bits b).toNat
def mirS (x : Int) (w : Nat) : Nat → Int
  | 0 => 0
  | k + 1 => if ((x.fdiv (2 ^ (min k IntKind.u8.bits))).tmod 2 == 1) = true then orU8 (mirS x w k) (IntKind.u8.wrap (1 * 2 ^ (min (w - 1 - k) IntKind.u8.bits))) else mirS x w k
/-- What mirroring makes of one course. -/
def mir (r : Roof) (f : Nat → Int) (i : Nat) : Int := (rev8 (f i)).fdiv (2 ^ (min (8 - r.w).toNat IntKind.u8.bits))
theorem mir_fact : ∀ w : Nat, w < 9 → ∀ x : Nat, x < 256 → shrI x w = 0 → 0 < w → mirS x w w = (rev8 x).fdiv (2 ^ (min (8 - w) IntKind.u8.bits)) := by decide +kernel
theorem eq_toNat {x : Int} (h : 0 ≤ x) : ∃ n : Nat, x = n := ⟨x.toNat, by omega⟩
def mrow (r : Roof) (f : Nat → Int) (c k : Nat) : Nat → Value := fun i => .int .u8 (if i < c then mirS (f i) r.w.toNat r.w.toNat else if i = c then mirS (f i) r.w.toNat k else 0)
def mirOut (r : Roof) (f : Nat → Int) (i : Nat) : Int := if okC r f = true then mir r f i else 0
theorem mrow_zero (r : Roof) (f : Nat → Int) : tab 8 (mrow r f 0 0) = List.replicate 8 (.int .u8 0) := by
  rw [← part_zero 8 f]
  apply tab_congr
  intro i hi
  simp only [mrow, partV, mirS]
  simp
theorem mrow_next (r : Roof) (f : Nat → Int) (c : Nat) : tab 8 (mrow r f c r.w.toNat) = tab 8 (mrow r f (c + 1) 0) := by
  apply tab_congr
  intro i hi
  simp only [mrow, mirS]
  by_cases h : i < c
  · rw [if_pos h, if_pos (by omega)]
  · rw [if_neg h]
    by_cases h2 : i = c
    · rw [if_pos h2, if_pos (by omega)]
    · rw [if_neg h2, if_neg (by omega)]; simp
theorem mrow_get {r : Roof} {f : Nat → Int} {c k o : Nat} (ho : o = c) (hc : c < 8) : nth (tab 8 (mrow r f c k)) o = some (.int .u8 (mirS (f c) r.w.toNat k)) := by
  subst ho
  rw [nth_tab hc]
  simp [mrow]
theorem mrow_set {r : Roof} {f : Nat → Int} {c k : Nat} {x : Int} (hx : x = mirS (f c) r.w.toNat (k + 1)) : (tab 8 (mrow r f c k)).set c (.int .u8 x) = tab 8 (mrow r f c (k + 1)) := by
  subst hx
  rw [tab_set]
  apply tab_congr
  intro i hi
  simp only [mrow]
  by_cases h : i = c
  · subst h; simp
  · rw [if_neg h]; simp [h]
theorem mrow_done {r : Roof} {f : Nat → Int} (hf : RowIn f) (hok : okC r f = true) (hb : 1 ≤ r.w ∧ r.w ≤ 8) : tab 8 (mrow r f r.h.toNat 0) = row8 (mirOut r f) := by
  apply tab_congr
  intro i hi
  simp only [okC, Bool.and_eq_true, List.all_eq_true, List.mem_range] at hok
  have hc := hok.2 i hi
  simp only [colOk, Bool.and_eq_true, Bool.or_eq_true, beq_iff_eq, decide_eq_true_eq] at hc
  have hr := hf.t i
  obtain ⟨n, hn⟩ := eq_toNat hr.1
  obtain ⟨w, hw⟩ := eq_toNat (show 0 ≤ r.w by omega)
  have main : mirS (f i) w w = (rev8 (f i)).fdiv (2 ^ (min (8 - w) IntKind.u8.bits)) := by
    rw [hn]
    refine mir_fact w (by omega) n (by omega) ?_ (by omega)
    rw [← hn, ← hw]; exact hc.1
  have hok' : okC r f = true := by
    simp only [okC, Bool.and_eq_true, List.all_eq_true, List.mem_range]; exact hok
  simp only [mrow, mirOut, hok', if_true, mir, hw, mirS]
  rw [show ((8 : Int) - (w : Int)).toNat = 8 - w by omega, ← main]
  simp only [Int.toNat_natCast]
  by_cases h : i < r.h.toNat
  · rw [if_pos h]
  · rw [if_neg h]
    have : f i = 0 := by omega
    have hz : mirS 0 w w = 0 := by
      have := mir_fact w (by omega) 0 (by omega) (by unfold shrI; simp) (by omega)
      refine Eq.trans this ?_
      have : rev8 ((0 : Nat) : Int) = 0 := by decide
      rw [this]; simp
    rw [this, hz]; simp
end Go.V
namespace Go.Proofs.Ytndlknhakdadjaa
open Go.V
end Go.Proofs.Ytndlknhakdadjaa
