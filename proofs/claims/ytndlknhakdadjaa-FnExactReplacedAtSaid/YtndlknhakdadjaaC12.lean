/- Contracts: patterns of words, both sides, and the law. -/
import Derived.Test.YtndlknhakdadjaaC11
import Derived.Test.YtndlknhakdadjaaC1
set_option linter.unusedVariables false
set_option linter.unusedSimpArgs false
namespace Go.V
def patB (b : ByteArray) (s c k : Nat) : Bool := byteAt b ((k + s * c) % b.size) == 114
def accS (b : ByteArray) (s : Nat) (f : Nat → Int) (q : Pl) : Nat → Int := fun j => if j = q.1 ∧ patB b s q.1 q.2 = true then orU8 (f j) (IntKind.u8.wrap (1 * 2 ^ (min q.2 IntKind.u8.bits))) else f j
def acc (b : ByteArray) (s : Nat) (ps : List Pl) : Nat → Int := ps.foldl (accS b s) fun _ => 0
theorem acc_snoc (b : ByteArray) (s : Nat) (ps : List Pl) (q : Pl) : acc b s (ps ++ [q]) = accS b s (acc b s ps) q := by
  unfold acc; rw [List.foldl_append]; rfl
theorem row8_zero : row8 (fun _ => 0) = List.replicate 8 (.int .u8 0) := by
  rw [← part_zero 8 fun _ => 0]
  apply tab_congr; intro i hi; simp [partV]
theorem row8_set {f g : Nat → Int} {c : Nat} (h : ∀ j, j ≠ c → g j = f j) : (row8 f).set c (.int .u8 (g c)) = row8 g := by
  unfold row8
  rw [tab_set]
  apply tab_congr
  intro i hi
  by_cases h1 : i = c
  · subst h1; simp
  · rw [if_neg h1, h i h1]
theorem accS_other {b : ByteArray} {s : Nat} {f : Nat → Int} {q : Pl} : ∀ j, j ≠ q.1 → accS b s f q j = f j := by
  intro j hj; simp [accS, hj]
theorem accS_no {b : ByteArray} {s : Nat} {f : Nat → Int} {q : Pl} (h : patB b s q.1 q.2 = false) : accS b s f q = f := by
  funext j; simp [accS, h]
theorem accS_yes {b : ByteArray} {s : Nat} {f : Nat → Int} {q : Pl} (h : patB b s q.1 q.2 = true) : accS b s f q q.1 = orU8 (f q.1) (IntKind.u8.wrap (1 * 2 ^ (min q.2 IntKind.u8.bits))) := by
  simp [accS, h]
theorem allP_true (r : Roof) : (allP r fun _ _ => true) = gridP r.w.toNat r.h.toNat := by
  unfold allP pick; simp
def mpCode (r : Roof) (b : ByteArray) (st : Int) : Int := if okR r = true ∧ okW b = true then (if 0 ≤ st ∧ st ≤ 12 then 0 else 2) else 1
theorem okW_size {b : ByteArray} (h : okW b = true) : 1 ≤ b.size ∧ b.size ≤ 12 := by
  simp only [okW, Bool.and_eq_true, decide_eq_true_eq] at h
  omega
def patR (r : Roof) (b : ByteArray) (s : Nat) : Nat → Int := acc b s (gridP r.w.toNat r.h.toNat)
def mpRow (r : Roof) (b : ByteArray) (st : Int) : Nat → Int := if mpCode r b st = 0 then patR r b st.toNat else fun _ => 0
theorem pat_index {k c s n : Nat} (hk : k < 8) (hc : c < 8) (hs : s ≤ 12) (hn : 1 ≤ n) (hn' : n ≤ 12) :
    (IntKind.i64.wrap ((k : Int) + IntKind.i64.wrap ((s : Int) * (c : Int)))).tmod (n : Int) = (((k + s * c) % n : Nat) : Int) := by
  have h1 : s * c ≤ 12 * 7 := Nat.mul_le_mul hs (by omega)
  have e1 : IntKind.i64.wrap ((s : Int) * (c : Int)) = ((s * c : Nat) : Int) := by
    rw [w64 (by push_cast; omega) (by push_cast; omega)]; push_cast; rfl
  rw [e1, w64 (by omega) (by omega)]
  have e2 : (k : Int) + ((s * c : Nat) : Int) = ((k + s * c : Nat) : Int) := by push_cast; rfl
  rw [e2]
  rfl
end Go.V
namespace Go.Proofs.Ytndlknhakdadjaa
open Go.V
theorem l07Make_sat (r : Roof) (hr : r.In) (hb : (1 ≤ r.w ∧ r.w ≤ 8) ∧ (1 ≤ r.h ∧ r.h ≤ 8) ∧ r.s ≤ 1) (b : ByteArray) (hn : 1 ≤ b.size ∧ b.size ≤ 12) (s : Nat) (hs : s ≤ 12) :
    Sat Try.prog 52 [.ref false (roofD r) 0, .v (.string b), .v (.int .i64 s)] (row8D (patR r b s)) := by
  have e3 : IntKind.i64.wrap r.h = r.h := w64 (by omega) (by omega)
  have e4 : IntKind.i64.wrap r.w = r.w := w64 (by omega) (by omega)
  refine sat_of_wp hMix tOk Try.func52 rfl rfl Try.ntmps52 rfl rfl Try.results52 (by kernel_rfl) ?_
  conv => whnf
  refine ⟨rfl, ?_⟩
  conv => whnf
  refine ⟨by decide, ?_⟩
  conv => whnf
  refine loop_rule (α := Nat) (fun c => [(0, .ref false (roofD r) 0), (1, .v (.string b)), (2, .v (.int .i64 s)), (6, .ptr (6, 0, 0) 0), (7, .ptr (7, 0, 0) 0), (8, .v (.int .i64 b.size)), (9, .v (.int .i64 c))])
    (fun c => [((6, 0, 0), .v (.agg ⟨List.replicate 8 (.int .u8 0)⟩)), ((7, 0, 0), row8D (acc b s (gridP r.w.toNat c)))]) (fun c => c ≤ r.h.toNat) (fun c => 8 - c) 0 (Nat.zero_le _)
    (sim_of (rn := [((6, 0, 0), (6, 0, 0)), ((7, 0, 0), (7, 0, 0))]) rfl ⟨rfl, rfl, rfl, rfl, rfl, rfl, rfl, trivial⟩ ⟨⟨_, _, rfl, rfl, rfl⟩, ⟨_, _, rfl, rfl, ?_⟩, trivial⟩) ?_
  · show _ = some (D.v (.agg ⟨row8 fun _ => 0⟩))
    rw [row8_zero]; rfl
  intro c hc
  conv => whnf
  rw [e3]
  cases h4 : decide ((c : Int) < r.h)
  · have h8 : c = r.h.toNat := by simp at h4; omega
    subst h8
    conv => whnf
    refine ⟨by simp, ?_⟩
    conv => whnf
    refine ⟨by simp, ?_⟩
    conv => whnf
    refine ⟨by simp, ?_⟩
    conv => whnf
    refine ⟨by simp [splice], ?_⟩
    conv => whnf
    refine ⟨rfl, _, rfl, ?_⟩
    show D.v (.agg ⟨row8 (patR r b s)⟩) = _
    refine congrArg (fun l => D.v (.agg ⟨l⟩)) (Eq.symm ?_)
    exact copied (n := 8) (xs := List.replicate 8 (.int .u8 0)) (ys := row8 (patR r b s)) (by simp) (by simp)
  conv => whnf
  have hch : (c : Int) < r.h := by simpa using h4
  have h8 : c < 8 := by omega
  refine loop_rule (α := Nat) (fun k => [(0, .ref false (roofD r) 0), (1, .v (.string b)), (2, .v (.int .i64 s)), (6, .ptr (6, 0, 0) 0), (7, .ptr (7, 0, 0) 0), (8, .v (.int .i64 b.size)), (9, .v (.int .i64 c)), (10, .v (.int .i64 k))])
    (fun k => [((6, 0, 0), .v (.agg ⟨List.replicate 8 (.int .u8 0)⟩)), ((7, 0, 0), row8D (acc b s (gridP r.w.toNat c ++ rowP c k)))]) (fun k => k ≤ r.w.toNat) (fun k => 8 - k) 0 (Nat.zero_le _)
    (sim_of (rn := [((6, 0, 0), (6, 0, 0)), ((7, 0, 0), (7, 0, 0))]) rfl ⟨rfl, rfl, rfl, rfl, rfl, rfl, rfl, rfl, trivial⟩ ⟨⟨_, _, rfl, rfl, rfl⟩, ⟨_, _, rfl, rfl, ?_⟩, trivial⟩) ?_
  · rw [rowP_zero, List.append_nil]; rfl
  intro k hk
  conv => whnf
  rw [e4]
  cases h5 : decide ((k : Int) < r.w)
  · have hkw : k = r.w.toNat := by simp at h5; omega
    subst hkw
    conv => whnf
    refine ⟨c + 1, by dsimp only; omega, by dsimp only; omega, sim_of (rn := [((6, 0, 0), (6, 0, 0)), ((7, 0, 0), (7, 0, 0))]) rfl ⟨rfl, rfl, rfl, rfl, rfl, rfl, succ64 (by omega), trivial⟩ ⟨⟨_, _, rfl, rfl, rfl⟩, ⟨_, _, rfl, rfl, ?_⟩, trivial⟩⟩
    rw [gridP_next]; rfl
  conv => whnf
  have hkw : (k : Int) < r.w := by simpa using h5
  have hi := pat_index (k := k) (c := c) (s := s) (n := b.size) (by omega) h8 hs hn.1 hn.2
  have hm : (k + s * c) % b.size < b.size := Nat.mod_lt _ (by omega)
  refine ⟨by omega, ?_⟩
  conv => whnf
  rw [hi]
  refine ⟨⟨by omega, by omega⟩, ?_⟩
  conv => whnf
  rw [Int.toNat_natCast]
  cases h6 : (byteAt b ((k + s * c) % b.size) == 114)
  · conv => whnf
    refine ⟨k + 1, by dsimp only; omega, by dsimp only; omega, sim_of (rn := [((6, 0, 0), (6, 0, 0)), ((7, 0, 0), (7, 0, 0))]) rfl ⟨rfl, rfl, rfl, rfl, rfl, rfl, rfl, succ64 (by omega), trivial⟩ ⟨⟨_, _, rfl, rfl, rfl⟩, ⟨_, _, rfl, rfl, ?_⟩, trivial⟩⟩
    rw [rowP_next, ← List.append_assoc, acc_snoc, accS_no (q := (c, k)) h6]; rfl
  conv => whnf
  refine ⟨⟨by omega, by omega⟩, ?_⟩
  conv => whnf
  refine optK_of (row8_get (k := c) (by simp) h8) ?_
  conv => whnf
  have ek : IntKind.u64.wrap (k : Int) = k := wu64 (by omega) (by omega)
  rw [ek]
  refine ⟨by omega, ?_⟩
  conv => whnf
  refine ⟨⟨by omega, by omega⟩, ?_⟩
  conv => whnf
  refine ⟨by simp; omega, ?_⟩
  conv => whnf
  refine ⟨k + 1, by dsimp only; omega, by dsimp only; omega, sim_of (rn := [((6, 0, 0), (6, 0, 0)), ((7, 0, 0), (7, 0, 0))]) rfl ⟨rfl, rfl, rfl, rfl, rfl, rfl, rfl, succ64 (by omega), trivial⟩ ⟨⟨_, _, rfl, rfl, rfl⟩, ⟨_, _, rfl, rfl, ?_⟩, trivial⟩⟩
  rw [rowP_next, ← List.append_assoc, acc_snoc]
  show some (D.v (.agg ⟨(row8 (acc b s (gridP r.w.toNat c ++ rowP c k))).set (0 + (c : Int).toNat * 1) (.int .u8 (orU8 (acc b s (gridP r.w.toNat c ++ rowP c k) c) (IntKind.u8.wrap (1 * 2 ^ (min (k : Int).toNat IntKind.u8.bits)))))⟩)) = some (D.v (.agg ⟨row8 (accS b s (acc b s (gridP r.w.toNat c ++ rowP c k)) (c, k))⟩))
  rw [show 0 + (c : Int).toNat * 1 = c by omega, Int.toNat_natCast, ← accS_yes (q := (c, k)) h6, row8_set (c := c) (accS_other (q := (c, k)))]

theorem pattern1_sat (c k : Nat) : Sat Try.prog 128 [placeD c k] (.v (.bool true)) := by
  refine sat_of_wp hMix tOk Try.func128 rfl rfl Try.ntmps128 rfl rfl Try.results128 (by kernel_rfl) ?_
  exact ⟨rfl, _, rfl, rfl⟩

theorem pattern_sat (r : Roof) (hr : r.In) (hb : (1 ≤ r.w ∧ r.w ≤ 8) ∧ (1 ≤ r.h ∧ r.h ≤ 8) ∧ r.s ≤ 1) (b : ByteArray) (hn : 1 ≤ b.size ∧ b.size ≤ 12) (s : Nat) (hs : s ≤ 12) :
    Sat Try.prog 59 [roofD r, .v (.string b), .v (.int .i64 s)] (row8D (patR r b s)) := by
  have e0 : ((roofC r).drop 0).take 67 = roofC r := take_drop0 (by simp [roofC])
  have hp : Sat Try.prog 72 [D.v (.agg ⟨((roofC r).drop 0).take 67⟩), .fn (.func 128) [] []] (placesD true (gridP r.w.toNat r.h.toNat)) := by
    rw [e0, ← allP_true]; exact places_sat r hr hb fun c k _ _ => pattern1_sat c k
  have hlen : (gridP r.w.toNat r.h.toNat).length ≤ 64 := by
    rw [gridP_len]
    exact Nat.mul_le_mul (by omega : r.h.toNat ≤ 8) (by omega : r.w.toNat ≤ 8)
  refine sat_of_wp hMix tOk Try.func59 rfl rfl Try.ntmps59 rfl rfl Try.results59 (by kernel_rfl) ?_
  conv => whnf
  refine ⟨by simp [roofC], ?_⟩
  conv => whnf
  refine ⟨_, _, rfl, hp, ?_⟩
  conv => whnf
  generalize hps : gridP r.w.toNat r.h.toNat = ps at *
  have hin : ∀ (i : Nat) (q : Pl), ps[i]? = some q → q.1 < 8 ∧ q.2 < 8 := by
    intro i q hq
    have hm : q ∈ gridP r.w.toNat r.h.toNat := by rw [hps]; exact List.mem_of_getElem? hq
    unfold gridP rowP at hm
    simp only [List.mem_flatMap, List.mem_range, List.mem_map] at hm
    obtain ⟨a, ha, j, hj, rfl⟩ := hm
    constructor <;> simp only <;> omega
  refine loop_rule (α := Nat) (fun i => [(1, .v (.string b)), (2, .v (.int .i64 s)), (6, .ptr (6, 0, 0) 0), (7, .ptr (7, 0, 0) 0), (11, .slc true 2 (11, 0, 0) 0 ps.length), (12, .v (.int .i64 ps.length)), (13, .v (.int .i64 i))])
    (fun i => [((6, 0, 0), .v (.agg ⟨List.replicate 8 (.int .u8 0)⟩)), ((7, 0, 0), row8D (acc b s (ps.take i))), ((11, 0, 0), .v (.agg ⟨placesC ps⟩))]) (fun i => i ≤ ps.length) (fun i => ps.length - i) 0 (Nat.zero_le _)
    (sim_of (rn := [((6, 0, 0), (6, 0, 0)), ((7, 0, 0), (7, 0, 0)), ((11, 0, 0), (11, 0, 0))]) rfl ⟨rfl, rfl, rfl, rfl, rfl, rfl, rfl, trivial⟩ ⟨⟨_, _, rfl, rfl, rfl⟩, ⟨_, _, rfl, rfl, ?_⟩, ⟨_, _, rfl, rfl, rfl⟩, trivial⟩) ?_
  · show _ = some (D.v (.agg ⟨row8 fun _ => 0⟩))
    rw [row8_zero]; rfl
  intro i hi
  conv => whnf
  cases h4 : decide ((i : Int) < (ps.length : Int))
  · have h8 : i = ps.length := by simp at h4; omega
    subst h8
    conv => whnf
    refine ⟨by simp, ?_⟩
    conv => whnf
    refine ⟨by simp, ?_⟩
    conv => whnf
    refine ⟨by simp, ?_⟩
    conv => whnf
    refine ⟨by simp [splice], ?_⟩
    conv => whnf
    refine ⟨rfl, _, rfl, ?_⟩
    show D.v (.agg ⟨row8 (patR r b s)⟩) = _
    refine congrArg (fun l => D.v (.agg ⟨l⟩)) (Eq.symm ?_)
    refine (copied (n := 8) (xs := List.replicate 8 (.int .u8 0)) (ys := row8 (acc b s (ps.take ps.length))) (by simp) (by simp)).trans ?_
    rw [List.take_length, ← hps]; rfl
  conv => whnf
  have hlt : i < ps.length := by simp at h4; omega
  obtain ⟨q, hq⟩ : ∃ q, ps[i]? = some q := ⟨ps[i], by simp [hlt]⟩
  have hqb := hin i q hq
  obtain ⟨c, k⟩ := q
  simp only at hqb
  refine ⟨⟨by omega, by omega⟩, ?_⟩
  conv => whnf
  refine ⟨by simp; omega, ?_⟩
  conv => whnf
  have e : List.take ti109.size (List.drop (0 + (i : Int).toNat * ti109.size) ({ toList := placesC ps } : Array Value).toList) = [.int .i8 c, .int .i8 k] := by
    have := placesC_sub hq
    simp only [ti109_size]
    rw [show 0 + (i : Int).toNat * 2 = i * 2 by omega]
    exact this
  rw [e]
  refine ⟨rfl, ?_⟩
  conv => whnf
  refine ⟨by simp, ?_⟩
  conv => whnf
  have hm : (k + s * c) % b.size < b.size := Nat.mod_lt _ (by omega)
  have w1 : IntKind.i64.wrap (k : Int) = k := w64 (by omega) (by omega)
  have w2 : IntKind.i64.wrap (c : Int) = c := w64 (by omega) (by omega)
  have hi' := pat_index (k := k) (c := c) (s := s) (n := b.size) hqb.2 hqb.1 hs hn.1 hn.2
  refine ⟨by omega, ?_⟩
  conv => whnf
  rw [w1, w2, hi']
  refine ⟨⟨by omega, by omega⟩, ?_⟩
  conv => whnf
  rw [Int.toNat_natCast]
  have htake : ps.take (i + 1) = ps.take i ++ [(c, k)] := by
    rw [List.take_add_one, hq]; rfl
  cases h6 : (byteAt b ((k + s * c) % b.size) == 114)
  · conv => whnf
    refine ⟨i + 1, by dsimp only; omega, by dsimp only; omega, sim_of (rn := [((6, 0, 0), (6, 0, 0)), ((7, 0, 0), (7, 0, 0)), ((11, 0, 0), (11, 0, 0))]) rfl ⟨rfl, rfl, rfl, rfl, rfl, rfl, succ64 (by omega), trivial⟩ ⟨⟨_, _, rfl, rfl, rfl⟩, ⟨_, _, rfl, rfl, ?_⟩, ⟨_, _, rfl, rfl, rfl⟩, trivial⟩⟩
    rw [htake, acc_snoc, accS_no (q := (c, k)) h6]; rfl
  conv => whnf
  refine ⟨⟨by omega, by omega⟩, ?_⟩
  conv => whnf
  refine optK_of (row8_get (k := c) (by simp) hqb.1) ?_
  conv => whnf
  refine ⟨by omega, ?_⟩
  conv => whnf
  refine ⟨⟨by omega, by omega⟩, ?_⟩
  conv => whnf
  refine ⟨by simp; omega, ?_⟩
  conv => whnf
  refine ⟨i + 1, by dsimp only; omega, by dsimp only; omega, sim_of (rn := [((6, 0, 0), (6, 0, 0)), ((7, 0, 0), (7, 0, 0)), ((11, 0, 0), (11, 0, 0))]) rfl ⟨rfl, rfl, rfl, rfl, rfl, rfl, succ64 (by omega), trivial⟩ ⟨⟨_, _, rfl, rfl, rfl⟩, ⟨_, _, rfl, rfl, ?_⟩, ⟨_, _, rfl, rfl, rfl⟩, trivial⟩⟩
  rw [htake, acc_snoc]
  show some (D.v (.agg ⟨(row8 (acc b s (ps.take i))).set (0 + (c : Int).toNat * 1) (.int .u8 (orU8 (acc b s (ps.take i) c) (IntKind.u8.wrap (1 * 2 ^ (min (k : Int).toNat IntKind.u8.bits)))))⟩)) = some (D.v (.agg ⟨row8 (accS b s (acc b s (ps.take i)) (c, k))⟩))
  rw [show 0 + (c : Int).toNat * 1 = c by omega, Int.toNat_natCast, ← accS_yes (q := (c, k)) h6, row8_set (c := c) (accS_other (q := (c, k)))]

theorem within64_sat (n lo hi : Int) : Sat Try.prog 93 [.v (.int .i64 n), .v (.int .i64 lo), .v (.int .i64 hi)] (.v (.bool (decide (lo ≤ n) && decide (n ≤ hi)))) := by
  refine sat_of_wp hMix tOk Try.func93 rfl rfl Try.ntmps93 rfl rfl Try.results93 (by kernel_rfl) ?_
  conv => whnf
  cases h1 : decide (lo ≤ n)
  · exact ⟨rfl, _, rfl, rfl⟩
  · conv => whnf
    cases h2 : decide (n ≤ hi) <;> exact ⟨rfl, _, rfl, rfl⟩

end Go.Proofs.Ytndlknhakdadjaa
