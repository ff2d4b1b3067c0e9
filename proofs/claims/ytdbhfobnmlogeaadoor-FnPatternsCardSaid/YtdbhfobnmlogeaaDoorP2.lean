import Derived.Test.YtdbhfobnmlogeaaDoorP1
import Derived.Test.YtdbhfobnmlogeaaDoorW6
import Derived.DeepKeys
import Derived.Test.YtdbhfobnmlogeaaDoorShelf
set_option linter.unusedVariables false
set_option linter.unusedSimpArgs false
/- Contracts: patterns of words, both sides, and the law. -/
set_option linter.unusedVariables false
set_option linter.unusedSimpArgs false
namespace Go.V
def patB (b : ByteArray) (s c k : Nat) : Bool := byteAt b ((k + s * c) % b.size) == 114
def accS (b : ByteArray) (s : Nat) (f : Nat → Int) (q : Pl) : Nat → Int := fun j => if j = q.1 ∧ patB b s q.1 q.2 = true then orU8 (f j) (IntKind.u8.wrap (1 * 2 ^ (min q.2 IntKind.u8.bits))) else f j
def acc (b : ByteArray) (s : Nat) (ps : List Pl) : Nat → Int := ps.foldl (accS b s) fun _ => 0
theorem acc_snoc (b : ByteArray) (s : Nat) (ps : List Pl) (q : Pl) : acc b s (ps ++ [q]) = accS b s (acc b s ps) q := by
  unfold acc; rw [List.foldl_append]; rfl
theorem row8_zero : row8 (fun _ => 0) = List.replicate 8 (.int .u8 0) := by
  rw [← part_zero 8 fun _ => 0]
  apply tab_congr; intro i hi; simp [partV]
theorem row8_set {f g : Nat → Int} {c : Nat} (h : ∀ j, j ≠ c → g j = f j) : (row8 f).set c (.int .u8 (g c)) = row8 g := by
  unfold row8
  rw [tab_set]
  apply tab_congr
  intro i hi
  by_cases h1 : i = c
  · subst h1; simp
  · rw [if_neg h1, h i h1]
theorem accS_other {b : ByteArray} {s : Nat} {f : Nat → Int} {q : Pl} : ∀ j, j ≠ q.1 → accS b s f q j = f j := by
  intro j hj; simp [accS, hj]
theorem accS_no {b : ByteArray} {s : Nat} {f : Nat → Int} {q : Pl} (h : patB b s q.1 q.2 = false) : accS b s f q = f := by
  funext j; simp [accS, h]
theorem accS_yes {b : ByteArray} {s : Nat} {f : Nat → Int} {q : Pl} (h : patB b s q.1 q.2 = true) : accS b s f q q.1 = orU8 (f q.1) (IntKind.u8.wrap (1 * 2 ^ (min q.2 IntKind.u8.bits))) := by
  simp [accS, h]
theorem allP_true (r : Roof) : (allP r fun _ _ => true) = gridP r.w.toNat r.h.toNat := by
  unfold allP pick; simp
def mpCode (r : Roof) (b : ByteArray) (st : Int) : Int := if okR r = true ∧ okW b = true then (if 0 ≤ st ∧ st ≤ 12 then 0 else 2) else 1
theorem okW_size {b : ByteArray} (h : okW b = true) : 1 ≤ b.size ∧ b.size ≤ 12 := by
  simp only [okW, Bool.and_eq_true, decide_eq_true_eq] at h
  omega
def patR (r : Roof) (b : ByteArray) (s : Nat) : Nat → Int := acc b s (gridP r.w.toNat r.h.toNat)
def mpRow (r : Roof) (b : ByteArray) (st : Int) : Nat → Int := if mpCode r b st = 0 then patR r b st.toNat else fun _ => 0
theorem pat_index {k c s n : Nat} (hk : k < 8) (hc : c < 8) (hs : s ≤ 12) (hn : 1 ≤ n) (hn' : n ≤ 12) :
    (IntKind.i64.wrap ((k : Int) + IntKind.i64.wrap ((s : Int) * (c : Int)))).tmod (n : Int) = (((k + s * c) % n : Nat) : Int) := by
  have h1 : s * c ≤ 12 * 7 := Nat.mul_le_mul hs (by omega)
  have e1 : IntKind.i64.wrap ((s : Int) * (c : Int)) = ((s * c : Nat) : Int) := by
    rw [w64 (by push_cast; omega) (by push_cast; omega)]; push_cast; rfl
  rw [e1, w64 (by omega) (by omega)]
  have e2 : (k : Int) + ((s * c : Nat) : Int) = ((k + s * c : Nat) : Int) := by push_cast; rfl
  rw [e2]
  rfl
end Go.V
namespace Go.Proofs.YtdbhfobnmlogeaaDoor
open Go.V
theorem l07Make_sat (r : Roof) (hr : r.In) (hb : (1 ≤ r.w ∧ r.w ≤ 8) ∧ (1 ≤ r.h ∧ r.h ≤ 8) ∧ r.s ≤ 1) (b : ByteArray) (hn : 1 ≤ b.size ∧ b.size ≤ 12) (s : Nat) (hs : s ≤ 12) :
    Sat Tryd.prog 102 [.ref false (roofD r) 0, .v (.string b), .v (.int .i64 s)] (row8D (patR r b s)) := by
  have e3 : IntKind.i64.wrap r.h = r.h := w64 (by omega) (by omega)
  have e4 : IntKind.i64.wrap r.w = r.w := w64 (by omega) (by omega)
  refine sat_of_wp hMix tOk Tryd.func102 rfl rfl Tryd.ntmps102 rfl rfl Tryd.results102 (by kernel_rfl) ?_
  conv => whnf
  refine ⟨rfl, ?_⟩
  conv => whnf
  refine ⟨by decide, ?_⟩
  conv => whnf
  refine loop_rule (α := Nat) (fun c => [(0, .ref false (roofD r) 0), (1, .v (.string b)), (2, .v (.int .i64 s)), (6, .ptr (6, 0, 0) 0), (7, .ptr (7, 0, 0) 0), (8, .v (.int .i64 b.size)), (9, .v (.int .i64 c))])
    (fun c => [((6, 0, 0), .v (.agg ⟨List.replicate 8 (.int .u8 0)⟩)), ((7, 0, 0), row8D (acc b s (gridP r.w.toNat c)))]) (fun c => c ≤ r.h.toNat) (fun c => 8 - c) 0 (Nat.zero_le _)
    (sim_of (rn := [((6, 0, 0), (6, 0, 0)), ((7, 0, 0), (7, 0, 0))]) rfl ⟨rfl, rfl, rfl, rfl, rfl, rfl, rfl, trivial⟩ ⟨⟨_, _, rfl, rfl, rfl⟩, ⟨_, _, rfl, rfl, ?_⟩, trivial⟩) ?_
  · show _ = some (D.v (.agg ⟨row8 fun _ => 0⟩))
    rw [row8_zero]; rfl
  intro c hc
  conv => whnf
  rw [e3]
  cases h4 : decide ((c : Int) < r.h)
  · have h8 : c = r.h.toNat := by simp at h4; omega
    subst h8
    conv => whnf
    refine ⟨by simp, ?_⟩
    conv => whnf
    refine ⟨by simp, ?_⟩
    conv => whnf
    refine ⟨by simp, ?_⟩
    conv => whnf
    refine ⟨by simp [splice], ?_⟩
    conv => whnf
    refine ⟨rfl, _, rfl, ?_⟩
    show D.v (.agg ⟨row8 (patR r b s)⟩) = _
    refine congrArg (fun l => D.v (.agg ⟨l⟩)) (Eq.symm ?_)
    exact copied (n := 8) (xs := List.replicate 8 (.int .u8 0)) (ys := row8 (patR r b s)) (by simp) (by simp)
  conv => whnf
  have hch : (c : Int) < r.h := by simpa using h4
  have h8 : c < 8 := by omega
  refine loop_rule (α := Nat) (fun k => [(0, .ref false (roofD r) 0), (1, .v (.string b)), (2, .v (.int .i64 s)), (6, .ptr (6, 0, 0) 0), (7, .ptr (7, 0, 0) 0), (8, .v (.int .i64 b.size)), (9, .v (.int .i64 c)), (10, .v (.int .i64 k))])
    (fun k => [((6, 0, 0), .v (.agg ⟨List.replicate 8 (.int .u8 0)⟩)), ((7, 0, 0), row8D (acc b s (gridP r.w.toNat c ++ rowP c k)))]) (fun k => k ≤ r.w.toNat) (fun k => 8 - k) 0 (Nat.zero_le _)
    (sim_of (rn := [((6, 0, 0), (6, 0, 0)), ((7, 0, 0), (7, 0, 0))]) rfl ⟨rfl, rfl, rfl, rfl, rfl, rfl, rfl, rfl, trivial⟩ ⟨⟨_, _, rfl, rfl, rfl⟩, ⟨_, _, rfl, rfl, ?_⟩, trivial⟩) ?_
  · rw [rowP_zero, List.append_nil]; rfl
  intro k hk
  conv => whnf
  rw [e4]
  cases h5 : decide ((k : Int) < r.w)
  · have hkw : k = r.w.toNat := by simp at h5; omega
    subst hkw
    conv => whnf
    refine ⟨c + 1, by dsimp only; omega, by dsimp only; omega, sim_of (rn := [((6, 0, 0), (6, 0, 0)), ((7, 0, 0), (7, 0, 0))]) rfl ⟨rfl, rfl, rfl, rfl, rfl, rfl, succ64 (by omega), trivial⟩ ⟨⟨_, _, rfl, rfl, rfl⟩, ⟨_, _, rfl, rfl, ?_⟩, trivial⟩⟩
    rw [gridP_next]; rfl
  conv => whnf
  have hkw : (k : Int) < r.w := by simpa using h5
  have hi := pat_index (k := k) (c := c) (s := s) (n := b.size) (by omega) h8 hs hn.1 hn.2
  have hm : (k + s * c) % b.size < b.size := Nat.mod_lt _ (by omega)
  refine ⟨by omega, ?_⟩
  conv => whnf
  rw [hi]
  refine ⟨⟨by omega, by omega⟩, ?_⟩
  conv => whnf
  rw [Int.toNat_natCast]
  cases h6 : (byteAt b ((k + s * c) % b.size) == 114)
  · conv => whnf
    refine ⟨k + 1, by dsimp only; omega, by dsimp only; omega, sim_of (rn := [((6, 0, 0), (6, 0, 0)), ((7, 0, 0), (7, 0, 0))]) rfl ⟨rfl, rfl, rfl, rfl, rfl, rfl, rfl, succ64 (by omega), trivial⟩ ⟨⟨_, _, rfl, rfl, rfl⟩, ⟨_, _, rfl, rfl, ?_⟩, trivial⟩⟩
    rw [rowP_next, ← List.append_assoc, acc_snoc, accS_no (q := (c, k)) h6]; rfl
  conv => whnf
  refine ⟨⟨by omega, by omega⟩, ?_⟩
  conv => whnf
  refine optK_of (row8_get (k := c) (by simp) h8) ?_
  conv => whnf
  have ek : IntKind.u64.wrap (k : Int) = k := wu64 (by omega) (by omega)
  rw [ek]
  refine ⟨by omega, ?_⟩
  conv => whnf
  refine ⟨⟨by omega, by omega⟩, ?_⟩
  conv => whnf
  refine ⟨by simp; omega, ?_⟩
  conv => whnf
  refine ⟨k + 1, by dsimp only; omega, by dsimp only; omega, sim_of (rn := [((6, 0, 0), (6, 0, 0)), ((7, 0, 0), (7, 0, 0))]) rfl ⟨rfl, rfl, rfl, rfl, rfl, rfl, rfl, succ64 (by omega), trivial⟩ ⟨⟨_, _, rfl, rfl, rfl⟩, ⟨_, _, rfl, rfl, ?_⟩, trivial⟩⟩
  rw [rowP_next, ← List.append_assoc, acc_snoc]
  show some (D.v (.agg ⟨(row8 (acc b s (gridP r.w.toNat c ++ rowP c k))).set (0 + (c : Int).toNat * 1) (.int .u8 (orU8 (acc b s (gridP r.w.toNat c ++ rowP c k) c) (IntKind.u8.wrap (1 * 2 ^ (min (k : Int).toNat IntKind.u8.bits)))))⟩)) = some (D.v (.agg ⟨row8 (accS b s (acc b s (gridP r.w.toNat c ++ rowP c k)) (c, k))⟩))
  rw [show 0 + (c : Int).toNat * 1 = c by omega, Int.toNat_natCast, ← accS_yes (q := (c, k)) h6, row8_set (c := c) (accS_other (q := (c, k)))]

theorem pattern1_sat (c k : Nat) : Sat Tryd.prog 144 [placeD c k] (.v (.bool true)) := by
  refine sat_of_wp hMix tOk Tryd.func144 rfl rfl Tryd.ntmps144 rfl rfl Tryd.results144 (by kernel_rfl) ?_
  exact ⟨rfl, _, rfl, rfl⟩

theorem pattern_sat (r : Roof) (hr : r.In) (hb : (1 ≤ r.w ∧ r.w ≤ 8) ∧ (1 ≤ r.h ∧ r.h ≤ 8) ∧ r.s ≤ 1) (b : ByteArray) (hn : 1 ≤ b.size ∧ b.size ≤ 12) (s : Nat) (hs : s ≤ 12) :
    Sat Tryd.prog 100 [roofD r, .v (.string b), .v (.int .i64 s)] (row8D (patR r b s)) := by
  have e0 : ((roofC r).drop 0).take 67 = roofC r := take_drop0 (by simp [roofC])
  have hp : Sat Tryd.prog 143 [D.v (.agg ⟨((roofC r).drop 0).take 67⟩), .fn (.func 144) [] []] (placesD true (gridP r.w.toNat r.h.toNat)) := by
    rw [e0, ← allP_true]; exact places_sat r hr hb fun c k _ _ => pattern1_sat c k
  have hlen : (gridP r.w.toNat r.h.toNat).length ≤ 64 := by
    rw [gridP_len]
    exact Nat.mul_le_mul (by omega : r.h.toNat ≤ 8) (by omega : r.w.toNat ≤ 8)
  refine sat_of_wp hMix tOk Tryd.func100 rfl rfl Tryd.ntmps100 rfl rfl Tryd.results100 (by kernel_rfl) ?_
  conv => whnf
  refine ⟨by simp [roofC], ?_⟩
  conv => whnf
  refine ⟨_, _, rfl, hp, ?_⟩
  conv => whnf
  generalize hps : gridP r.w.toNat r.h.toNat = ps at *
  have hin : ∀ (i : Nat) (q : Pl), ps[i]? = some q → q.1 < 8 ∧ q.2 < 8 := by
    intro i q hq
    have hm : q ∈ gridP r.w.toNat r.h.toNat := by rw [hps]; exact List.mem_of_getElem? hq
    unfold gridP rowP at hm
    simp only [List.mem_flatMap, List.mem_range, List.mem_map] at hm
    obtain ⟨a, ha, j, hj, rfl⟩ := hm
    constructor <;> simp only <;> omega
  refine loop_rule (α := Nat) (fun i => [(1, .v (.string b)), (2, .v (.int .i64 s)), (6, .ptr (6, 0, 0) 0), (7, .ptr (7, 0, 0) 0), (11, .slc true 2 (11, 0, 0) 0 ps.length), (12, .v (.int .i64 ps.length)), (13, .v (.int .i64 i))])
    (fun i => [((6, 0, 0), .v (.agg ⟨List.replicate 8 (.int .u8 0)⟩)), ((7, 0, 0), row8D (acc b s (ps.take i))), ((11, 0, 0), .v (.agg ⟨placesC ps⟩))]) (fun i => i ≤ ps.length) (fun i => ps.length - i) 0 (Nat.zero_le _)
    (sim_of (rn := [((6, 0, 0), (6, 0, 0)), ((7, 0, 0), (7, 0, 0)), ((11, 0, 0), (11, 0, 0))]) rfl ⟨rfl, rfl, rfl, rfl, rfl, rfl, rfl, trivial⟩ ⟨⟨_, _, rfl, rfl, rfl⟩, ⟨_, _, rfl, rfl, ?_⟩, ⟨_, _, rfl, rfl, rfl⟩, trivial⟩) ?_
  · show _ = some (D.v (.agg ⟨row8 fun _ => 0⟩))
    rw [row8_zero]; rfl
  intro i hi
  conv => whnf
  cases h4 : decide ((i : Int) < (ps.length : Int))
  · have h8 : i = ps.length := by simp at h4; omega
    subst h8
    conv => whnf
    refine ⟨by simp, ?_⟩
    conv => whnf
    refine ⟨by simp, ?_⟩
    conv => whnf
    refine ⟨by simp, ?_⟩
    conv => whnf
    refine ⟨by simp [splice], ?_⟩
    conv => whnf
    refine ⟨rfl, _, rfl, ?_⟩
    show D.v (.agg ⟨row8 (patR r b s)⟩) = _
    refine congrArg (fun l => D.v (.agg ⟨l⟩)) (Eq.symm ?_)
    refine (copied (n := 8) (xs := List.replicate 8 (.int .u8 0)) (ys := row8 (acc b s (ps.take ps.length))) (by simp) (by simp)).trans ?_
    rw [List.take_length, ← hps]; rfl
  conv => whnf
  have hlt : i < ps.length := by simp at h4; omega
  obtain ⟨q, hq⟩ : ∃ q, ps[i]? = some q := ⟨ps[i], by simp [hlt]⟩
  have hqb := hin i q hq
  obtain ⟨c, k⟩ := q
  simp only at hqb
  refine ⟨⟨by omega, by omega⟩, ?_⟩
  conv => whnf
  refine ⟨by simp; omega, ?_⟩
  conv => whnf
  have e : List.take ti153.size (List.drop (0 + (i : Int).toNat * ti153.size) ({ toList := placesC ps } : Array Value).toList) = [.int .i8 c, .int .i8 k] := by
    have := placesC_sub hq
    simp only [ti153_size]
    rw [show 0 + (i : Int).toNat * 2 = i * 2 by omega]
    exact this
  rw [e]
  refine ⟨rfl, ?_⟩
  conv => whnf
  refine ⟨by simp, ?_⟩
  conv => whnf
  have hm : (k + s * c) % b.size < b.size := Nat.mod_lt _ (by omega)
  have w1 : IntKind.i64.wrap (k : Int) = k := w64 (by omega) (by omega)
  have w2 : IntKind.i64.wrap (c : Int) = c := w64 (by omega) (by omega)
  have hi' := pat_index (k := k) (c := c) (s := s) (n := b.size) hqb.2 hqb.1 hs hn.1 hn.2
  refine ⟨by omega, ?_⟩
  conv => whnf
  rw [w1, w2, hi']
  refine ⟨⟨by omega, by omega⟩, ?_⟩
  conv => whnf
  rw [Int.toNat_natCast]
  have htake : ps.take (i + 1) = ps.take i ++ [(c, k)] := by
    rw [List.take_add_one, hq]; rfl
  cases h6 : (byteAt b ((k + s * c) % b.size) == 114)
  · conv => whnf
    refine ⟨i + 1, by dsimp only; omega, by dsimp only; omega, sim_of (rn := [((6, 0, 0), (6, 0, 0)), ((7, 0, 0), (7, 0, 0)), ((11, 0, 0), (11, 0, 0))]) rfl ⟨rfl, rfl, rfl, rfl, rfl, rfl, succ64 (by omega), trivial⟩ ⟨⟨_, _, rfl, rfl, rfl⟩, ⟨_, _, rfl, rfl, ?_⟩, ⟨_, _, rfl, rfl, rfl⟩, trivial⟩⟩
    rw [htake, acc_snoc, accS_no (q := (c, k)) h6]; rfl
  conv => whnf
  refine ⟨⟨by omega, by omega⟩, ?_⟩
  conv => whnf
  refine optK_of (row8_get (k := c) (by simp) hqb.1) ?_
  conv => whnf
  refine ⟨by omega, ?_⟩
  conv => whnf
  refine ⟨⟨by omega, by omega⟩, ?_⟩
  conv => whnf
  refine ⟨by simp; omega, ?_⟩
  conv => whnf
  refine ⟨i + 1, by dsimp only; omega, by dsimp only; omega, sim_of (rn := [((6, 0, 0), (6, 0, 0)), ((7, 0, 0), (7, 0, 0)), ((11, 0, 0), (11, 0, 0))]) rfl ⟨rfl, rfl, rfl, rfl, rfl, rfl, succ64 (by omega), trivial⟩ ⟨⟨_, _, rfl, rfl, rfl⟩, ⟨_, _, rfl, rfl, ?_⟩, ⟨_, _, rfl, rfl, rfl⟩, trivial⟩⟩
  rw [htake, acc_snoc]
  show some (D.v (.agg ⟨(row8 (acc b s (ps.take i))).set (0 + (c : Int).toNat * 1) (.int .u8 (orU8 (acc b s (ps.take i) c) (IntKind.u8.wrap (1 * 2 ^ (min (k : Int).toNat IntKind.u8.bits)))))⟩)) = some (D.v (.agg ⟨row8 (accS b s (acc b s (ps.take i)) (c, k))⟩))
  rw [show 0 + (c : Int).toNat * 1 = c by omega, Int.toNat_natCast, ← accS_yes (q := (c, k)) h6, row8_set (c := c) (accS_other (q := (c, k)))]

theorem within64_sat (n lo hi : Int) : Sat Tryd.prog 99 [.v (.int .i64 n), .v (.int .i64 lo), .v (.int .i64 hi)] (.v (.bool (decide (lo ≤ n) && decide (n ≤ hi)))) := by
  refine sat_of_wp hMix tOk Tryd.func99 rfl rfl Tryd.ntmps99 rfl rfl Tryd.results99 (by kernel_rfl) ?_
  conv => whnf
  cases h1 : decide (lo ≤ n)
  · exact ⟨rfl, _, rfl, rfl⟩
  · conv => whnf
    cases h2 : decide (n ≤ hi) <;> exact ⟨rfl, _, rfl, rfl⟩

theorem specMake_sat (r : Roof) (hr : r.In) (b : ByteArray) (hb : b.size ≤ 1048576) (st : Int) : Sat Tryd.prog 41 [roofD r, .v (.string b), .v (.int .i64 st)] (.tup [row8D (mpRow r b st), .v (.int .i64 (mpCode r b st))]) := by
  have zero : ∀ x : Int, x ≠ 0 → mpCode r b st = x → D.tup [row8D (mpRow r b st), .v (.int .i64 (mpCode r b st))] = .tup [.v (.agg ⟨List.replicate 8 (.int .u8 0)⟩), .v (.int .i64 x)] := by
    intro x hx h
    unfold mpRow
    rw [h, if_neg hx]
    unfold row8D
    rw [row8_zero]
  refine sat_of_wp hMix tOk Tryd.func41 rfl rfl Tryd.ntmps41 rfl rfl Tryd.results41 (by kernel_rfl) ?_
  conv => whnf
  refine ⟨_, _, rfl, l01Ok_sat r hr, ?_⟩
  conv => whnf
  cases h1 : okR r
  · conv => whnf
    refine ⟨rfl, ?_⟩
    conv => whnf
    refine ⟨by decide, ?_⟩
    conv => whnf
    refine ⟨by decide, ?_⟩
    conv => whnf
    refine ⟨rfl, _, rfl, ?_⟩
    rw [zero 1 (by decide) (by simp [mpCode, h1])]; rfl
  conv => whnf
  refine ⟨_, _, rfl, l07Word_sat b hb, ?_⟩
  conv => whnf
  cases h2 : okW b
  · conv => whnf
    refine ⟨rfl, ?_⟩
    conv => whnf
    refine ⟨by decide, ?_⟩
    conv => whnf
    refine ⟨by decide, ?_⟩
    conv => whnf
    refine ⟨rfl, _, rfl, ?_⟩
    rw [zero 1 (by decide) (by simp [mpCode, h2])]; rfl
  conv => whnf
  refine ⟨_, _, rfl, l00In_sat _ _ _, ?_⟩
  conv => whnf
  cases h3 : (decide (st ≥ 0) && decide (st ≤ 12))
  · conv => whnf
    refine ⟨rfl, ?_⟩
    conv => whnf
    refine ⟨by decide, ?_⟩
    conv => whnf
    refine ⟨by decide, ?_⟩
    conv => whnf
    refine ⟨rfl, _, rfl, ?_⟩
    have : ¬ (0 ≤ st ∧ st ≤ 12) := by simp at h3; omega
    rw [zero 2 (by decide) (by simp only [mpCode, h1, h2, and_self, if_true, if_neg this])]; rfl
  have h3' : 0 ≤ st ∧ st ≤ 12 := by simpa using h3
  have hc : mpCode r b st = 0 := by simp only [mpCode, h1, h2, and_self, if_true, if_pos h3']
  obtain ⟨s, rfl⟩ := eq_toNat h3'.1
  conv => whnf
  refine ⟨_, _, rfl, l07Make_sat r hr (okR_bounds h1) b (okW_size h2) s (by omega), ?_⟩
  conv => whnf
  refine ⟨by simp, ?_⟩
  conv => whnf
  refine ⟨by simp, ?_⟩
  conv => whnf
  refine ⟨by simp [splice], ?_⟩
  conv => whnf
  refine ⟨rfl, _, rfl, ?_⟩
  unfold mpRow
  rw [hc, if_pos rfl]
  show D.tup [.v (.agg ⟨row8 (patR r b s)⟩), .v (.int .i64 0)] = _
  refine congrArg (fun l => D.tup [.v (.agg ⟨l⟩), .v (.int .i64 0)]) (Eq.symm ?_)
  show List.take 8 (List.drop 0 (splice (List.replicate 8 (.int .u8 0)) 0 (row8 (patR r b s)))) = row8 (patR r b s)
  rw [splice_all (by simp), take_drop0 (by simp)]
theorem makePattern_sat (r : Roof) (hr : r.In) (b : ByteArray) (hb : b.size ≤ 1048576) (st : Int) : Sat Tryd.prog 40 [roofD r, .v (.string b), .v (.int .i64 st)] (.tup [row8D (mpRow r b st), .v (.int .i64 (mpCode r b st))]) := by
  have zero : ∀ x : Int, x ≠ 0 → mpCode r b st = x → D.tup [row8D (mpRow r b st), .v (.int .i64 (mpCode r b st))] = .tup [.v (.agg ⟨List.replicate 8 (.int .u8 0)⟩), .v (.int .i64 x)] := by
    intro x hx h
    unfold mpRow
    rw [h, if_neg hx]
    unfold row8D
    rw [row8_zero]
  have e0 : ((roofC r).drop 0).take 67 = roofC r := take_drop0 (by simp [roofC])
  have cv : Sat Tryd.prog 56 [D.v (.agg ⟨((roofC r).drop 0).take 67⟩)] (.v (.bool (okR r))) := by rw [e0]; exact validRoof_sat r hr
  refine sat_of_wp hMix tOk Tryd.func40 rfl rfl Tryd.ntmps40 rfl rfl Tryd.results40 (by kernel_rfl) ?_
  conv => whnf
  refine ⟨by simp [roofC], ?_⟩
  conv => whnf
  refine ⟨_, _, rfl, cv, ?_⟩
  conv => whnf
  cases h1 : okR r
  · conv => whnf
    refine ⟨rfl, ?_⟩
    conv => whnf
    refine ⟨by decide, ?_⟩
    conv => whnf
    refine ⟨by decide, ?_⟩
    conv => whnf
    refine ⟨rfl, _, rfl, ?_⟩
    rw [zero 1 (by decide) (by simp [mpCode, h1])]; rfl
  conv => whnf
  refine ⟨_, _, rfl, implValidWord_sat b hb, ?_⟩
  conv => whnf
  cases h2 : okW b
  · conv => whnf
    refine ⟨rfl, ?_⟩
    conv => whnf
    refine ⟨by decide, ?_⟩
    conv => whnf
    refine ⟨by decide, ?_⟩
    conv => whnf
    refine ⟨rfl, _, rfl, ?_⟩
    rw [zero 1 (by decide) (by simp [mpCode, h2])]; rfl
  conv => whnf
  refine ⟨_, _, rfl, within64_sat _ _ _, ?_⟩
  conv => whnf
  cases h3 : (decide (0 ≤ st) && decide (st ≤ 12))
  · conv => whnf
    refine ⟨rfl, ?_⟩
    conv => whnf
    refine ⟨by decide, ?_⟩
    conv => whnf
    refine ⟨by decide, ?_⟩
    conv => whnf
    refine ⟨rfl, _, rfl, ?_⟩
    have : ¬ (0 ≤ st ∧ st ≤ 12) := by simp at h3; omega
    rw [zero 2 (by decide) (by simp only [mpCode, h1, h2, and_self, if_true, if_neg this])]; rfl
  have h3' : 0 ≤ st ∧ st ≤ 12 := by simpa using h3
  have hc : mpCode r b st = 0 := by simp only [mpCode, h1, h2, and_self, if_true, if_pos h3']
  obtain ⟨s, rfl⟩ := eq_toNat h3'.1
  conv => whnf
  refine ⟨by simp [roofC], ?_⟩
  conv => whnf
  have cp : Sat Tryd.prog 100 [D.v (.agg ⟨((roofC r).drop 0).take 67⟩), .v (.string b), .v (.int .i64 s)] (row8D (patR r b s)) := by rw [e0]; exact pattern_sat r hr (okR_bounds h1) b (okW_size h2) s (by omega)
  refine ⟨_, _, rfl, cp, ?_⟩
  conv => whnf
  refine ⟨by simp, ?_⟩
  conv => whnf
  refine ⟨by simp, ?_⟩
  conv => whnf
  refine ⟨by simp [splice], ?_⟩
  conv => whnf
  refine ⟨rfl, _, rfl, ?_⟩
  unfold mpRow
  rw [hc, if_pos rfl]
  show D.tup [.v (.agg ⟨row8 (patR r b s)⟩), .v (.int .i64 0)] = _
  refine congrArg (fun l => D.tup [.v (.agg ⟨l⟩), .v (.int .i64 0)]) (Eq.symm ?_)
  show List.take 8 (List.drop 0 (splice (List.replicate 8 (.int .u8 0)) 0 (row8 (patR r b s)))) = row8 (patR r b s)
  rw [splice_all (by simp), take_drop0 (by simp)]

end Go.Proofs.YtdbhfobnmlogeaaDoor
/- Contracts: codes of ages, the age of a tile. -/
set_option linter.unusedVariables false
set_option linter.unusedSimpArgs false
namespace Go.V
end Go.V
namespace Go.Proofs.YtdbhfobnmlogeaaDoor
open Go.V
end Go.Proofs.YtdbhfobnmlogeaaDoor
/- Contracts: the oldest tile, both sides. -/
set_option linter.unusedVariables false
set_option linter.unusedSimpArgs false
namespace Go.V
def nthP (ps : List Pl) (i : Nat) : Pl := ps.getD i (0, 0)
theorem nthP_some {ps : List Pl} {i : Nat} (h : i < ps.length) : ps[i]? = some (nthP ps i) := by
  unfold nthP; rw [List.getD_eq_getElem?_getD]; simp [h]
def bestL (a : Nat → Nat → Int) (ps : List Pl) : Nat → Pl
  | 0 => nthP ps 0
  | i + 1 => if a (nthP ps (i + 1)).1 (nthP ps (i + 1)).2 > a (bestL a ps i).1 (bestL a ps i).2 then nthP ps (i + 1) else bestL a ps i
def AllIn (ps : List Pl) : Prop := ∀ i, i < ps.length → (nthP ps i).1 < 8 ∧ (nthP ps i).2 < 8
def plD (q : Pl) : D := placeD q.1 q.2
theorem place_load {ps : List Pl} {i o : Nat} (ho : o = i * 2) (h : i < ps.length) : ((placesC ps).drop o).take 2 = [.int .i8 (nthP ps i).1, .int .i8 (nthP ps i).2] := by
  subst ho; exact placesC_sub (nthP_some h)
theorem gridP_in {w h : Nat} (hw : w ≤ 8) (hh : h ≤ 8) : AllIn (gridP w h) := by
  intro i hi
  have hm : nthP (gridP w h) i ∈ gridP w h := List.mem_of_getElem? (nthP_some hi)
  generalize nthP (gridP w h) i = q at hm
  unfold gridP rowP at hm
  simp only [List.mem_flatMap, List.mem_range, List.mem_map] at hm
  obtain ⟨x, hx, j, hj, rfl⟩ := hm
  constructor <;> simp only <;> omega
theorem gridP_size {r : Roof} (hb : (1 ≤ r.w ∧ r.w ≤ 8) ∧ (1 ≤ r.h ∧ r.h ≤ 8) ∧ r.s ≤ 1) : 1 ≤ (gridP r.w.toNat r.h.toNat).length ∧ (gridP r.w.toNat r.h.toNat).length ≤ 72 := by
  rw [gridP_len]
  have h1 : r.h.toNat * r.w.toNat ≤ 8 * 8 := Nat.mul_le_mul (by omega) (by omega)
  have h2 : 1 * 1 ≤ r.h.toNat * r.w.toNat := Nat.mul_le_mul (by omega) (by omega)
  omega
end Go.V
namespace Go.Proofs.YtdbhfobnmlogeaaDoor
open Go.V
end Go.Proofs.YtdbhfobnmlogeaaDoor
/- Plain words for use: lengths, looks into grids and lists. -/
set_option linter.unusedVariables false
set_option linter.unusedSimpArgs false
namespace Go.V
@[simp] theorem roofC_len (r : Roof) : (roofC r).length = 67 := by simp [roofC]
theorem gridN {t : Nat → Nat → Int} {c k : Nat} (hc : c < 8) (hk : k < 8) : nth (grid t) (0 + (c : Int).toNat * 8 + (k : Int).toNat * 1) = some (.int .u8 (t c k)) := grid_at (by simp) hc hk
theorem roofN {r : Roof} {c k : Nat} (hc : c < 8) (hk : k < 8) : nth (roofC r) (0 + 3 + (c : Int).toNat * 8 + (k : Int).toNat * 1) = some (.int .u8 (r.t c k)) := roof_get (by simp) hc hk
theorem rowN {t : Nat → Int} {k : Nat} (hk : k < 8) : nth (row8 t) (0 + (k : Int).toNat * 1) = some (.int .u8 (t k)) := row8_get (by simp) hk
theorem vrow {t : Nat → Nat → Int} {c o : Nat} (ho : o = c * 8) (hc : c < 8) : D.v (.agg ⟨((grid t).drop o).take 8⟩) = row8D (t c) := by
  rw [grid_row ho hc]; rfl
theorem vtiles {r : Roof} {o : Nat} (ho : o = 3) : D.v (.agg ⟨((roofC r).drop o).take 64⟩) = gridD r.t := by
  subst ho
  unfold gridD
  simp [roofC, take_full]
theorem grid_zero : grid (fun _ _ => 0) = List.replicate 64 (.int .u8 0) := by
  unfold grid
  rw [tab_def]
  simp [List.map_const']
/-- A cell of a grid replaced. -/
def putG (t : Nat → Nat → Int) (c k : Nat) (x : Int) : Nat → Nat → Int := fun c' k' => if c' = c ∧ k' = k then x else t c' k'
theorem grid_set {t : Nat → Nat → Int} {c k o : Nat} {x : Int} (ho : o = c * 8 + k) (hc : c < 8) (hk : k < 8) : (grid t).set o (.int .u8 x) = grid (putG t c k x) := by
  subst ho
  unfold grid putG
  rw [tab_set]
  apply tab_congr
  intro i hi
  by_cases h : i = c * 8 + k
  · subst h
    rw [if_pos rfl, if_pos ⟨by omega, by omega⟩]
  · rw [if_neg h, if_neg (by omega)]
def putR (r : Roof) (c k : Nat) (x : Int) : Roof := { r with t := putG r.t c k x }
theorem roof_set {r : Roof} {c k o : Nat} {x : Int} (ho : o = 3 + c * 8 + k) (hc : c < 8) (hk : k < 8) : (roofC r).set o (.int .u8 x) = roofC (putR r c k x) := by
  subst ho
  unfold roofC putR
  rw [show 3 + c * 8 + k = (c * 8 + k) + 1 + 1 + 1 by omega]
  simp only [List.set_cons_succ]
  rw [grid_set rfl hc hk]
theorem putR_in {r : Roof} {c k : Nat} {x : Int} (h : r.In) (h1 : 0 ≤ x ∧ x ≤ 255) : (putR r c k x).In := ⟨h.w, h.h, h.s, fun c' k' => by
  show 0 ≤ putG r.t c k x c' k' ∧ _
  unfold putR putG
  dsimp only
  split
  · exact h1
  · exact h.t c' k'⟩
theorem vplace {ps : List Pl} {i o : Nat} (ho : o = i * 2) (h : i < ps.length) : D.v (.agg ⟨((placesC ps).drop o).take 2⟩) = plD (nthP ps i) := by
  rw [place_load ho h]; rfl
theorem place_get {ps : List Pl} : ∀ {i : Nat}, i < ps.length → nth (placesC ps) (i * 2) = some (.int .i8 (nthP ps i).1) ∧ nth (placesC ps) (i * 2 + 1) = some (.int .i8 (nthP ps i).2) := by
  induction ps with
  | nil => intro i h; simp at h
  | cons p ps ih =>
    intro i h
    cases i with
    | zero => exact ⟨rfl, rfl⟩
    | succ i =>
      rw [show (i + 1) * 2 = i * 2 + 1 + 1 by omega]
      exact ih (by simpa using h)
theorem placeN1 {ps : List Pl} {i o : Nat} (h : i < ps.length) (ho : o = i * 2) : nth (placesC ps) o = some (.int .i8 (nthP ps i).1) := by subst ho; exact (place_get h).1
theorem placeN2 {ps : List Pl} {i o : Nat} (h : i < ps.length) (ho : o = i * 2 + 1) : nth (placesC ps) o = some (.int .i8 (nthP ps i).2) := by subst ho; exact (place_get h).2
theorem placeA {ps : List Pl} {i : Nat} (h : i < ps.length) : nth (placesC ps) (0 + (i : Int).toNat * 2 + 0) = some (.int .i8 (nthP ps i).1) := placeN1 h (by simp)
theorem placeB {ps : List Pl} {i : Nat} (h : i < ps.length) : nth (placesC ps) (0 + (i : Int).toNat * 2 + 1) = some (.int .i8 (nthP ps i).2) := placeN2 h (by simp)
theorem placeA' {ps : List Pl} {i : Nat} (h : i < ps.length) : nth (placesC ps) ((i : Int).toNat * 2 + 0) = some (.int .i8 (nthP ps i).1) := placeN1 h (by simp)
theorem placeB' {ps : List Pl} {i : Nat} (h : i < ps.length) : nth (placesC ps) ((i : Int).toNat * 2 + 1) = some (.int .i8 (nthP ps i).2) := placeN2 h (by simp)
theorem vsplice {xs ys : List Value} {n : Nat} (h : xs.length = ys.length) (h2 : ys.length ≤ n) : D.v (.agg ⟨((splice xs 0 ys).drop 0).take n⟩) = D.v (.agg ⟨ys⟩) := by
  rw [splice_all h, List.drop_zero, take_full h2]
theorem cset {l l' : List Value} (h : l = l') : some (D.v (.agg ⟨l⟩)) = some (D.v (.agg ⟨l'⟩)) := by rw [h]
theorem csplice {xs ys : List Value} (h : xs.length = ys.length) : some (D.v (.agg ⟨splice xs 0 ys⟩)) = some (D.v (.agg ⟨ys⟩)) := by rw [splice_all h]
end Go.V
/- Plain words: lists of whole numbers. -/
set_option linter.unusedVariables false
set_option linter.unusedSimpArgs false
namespace Go.V
def I64 (x : Int) : Prop := -9223372036854775808 ≤ x ∧ x ≤ 9223372036854775807
def ix (xs : List Int) (i : Nat) : Int := xs.getD i 0
@[irreducible] def intsC (xs : List Int) : List Value := xs.map (Value.int .i64)
theorem intsC_def (xs : List Int) : intsC xs = xs.map (Value.int .i64) := by unfold intsC; rfl
@[simp] theorem intsC_len (xs : List Int) : (intsC xs).length = xs.length := by simp [intsC_def]
def intsD (m : Bool) (xs : List Int) : D := .row m 1 (.v (.agg ⟨intsC xs⟩)) xs.length
theorem intN {xs : List Int} {i o : Nat} (h : i < xs.length) (ho : o = i) : nth (intsC xs) o = some (.int .i64 (ix xs i)) := by
  subst ho
  rw [nth_eq, intsC_def, List.getElem?_map]
  unfold ix
  rw [List.getD_eq_getElem?_getD]
  simp [h]
theorem intA {xs : List Int} {i : Nat} (h : i < xs.length) : nth (intsC xs) (0 + (i : Int).toNat * 1) = some (.int .i64 (ix xs i)) := intN h (by simp)
theorem intA' {xs : List Int} {i : Nat} (h : i < xs.length) : nth (intsC xs) ((i : Int).toNat * 1) = some (.int .i64 (ix xs i)) := intN h (by simp)
def marksI (k : Int) (n : Nat) : List Int := (List.range n).map fun j => k + (j : Nat)
@[simp] theorem marksI_len (k : Int) (n : Nat) : (marksI k n).length = n := by simp [marksI]
theorem strLe {n : Nat} (h : n ≤ 1000000000000) : ((n : Nat) : Int) ≤ IntKind.i64.max := by
  have : IntKind.i64.max = 9223372036854775807 := by decide
  omega
theorem strLe1 {a : ByteArray} {x : UInt8} (h : a.size ≤ 100000000000) : ((a.size + (⟨#[x]⟩ : ByteArray).size : Nat) : Int) ≤ IntKind.i64.max := strLe (by
  have : (⟨#[x]⟩ : ByteArray).size = 1 := rfl
  omega)
end Go.V
/- Plain words: values of arrays and structs of whole numbers compared. -/
set_option linter.unusedVariables false
set_option linter.unusedSimpArgs false
namespace Go.V
def litOf : Value → Lit
  | .int k z => .int k z
  | _ => .bool false
def litsOf (cs : List Value) : List Lit := cs.map litOf
/-- A cell with a whole number that its kind has. -/
def IntCell : Value → Prop
  | .int k z => (Lit.int k z).wf = true
  | _ => False
theorem litsOf_inj : ∀ {xs ys : List Value}, (∀ x ∈ xs, IntCell x) → (∀ y ∈ ys, IntCell y) → litsOf xs = litsOf ys → xs = ys
  | [], [], _, _, _ => rfl
  | [], y :: ys, _, _, h => by simp [litsOf] at h
  | x :: xs, [], _, _, h => by simp [litsOf] at h
  | x :: xs, y :: ys, hx, hy, h => by
    simp only [litsOf, List.map_cons, List.cons.injEq] at h
    have h1 := hx x (by simp)
    have h2 := hy y (by simp)
    have := litsOf_inj (fun z hz => hx z (by simp [hz])) (fun z hz => hy z (by simp [hz])) h.2
    subst this
    cases x <;> simp only [IntCell] at h1
    cases y <;> simp only [IntCell] at h2
    have h3 := h.1
    simp only [litOf, Lit.int.injEq] at h3
    rw [h3.1, h3.2]
theorem mapM_some {α β : Type} {f : α → Option β} {g : α → β} : ∀ (l : List α), (∀ x ∈ l, f x = some (g x)) → l.mapM f = some (l.map g)
  | [], _ => rfl
  | x :: l, h => by
    rw [List.mapM_cons, h x (by simp), mapM_some l fun y hy => h y (by simp [hy])]
    rfl
theorem chunks (c : Nat) : ∀ (n : Nat) (cs : List Value), cs.length = n * c → ((List.range n).map fun i => (cs.drop (i * c)).take c).flatten = cs
  | 0, cs, h => by
    have : cs = [] := List.length_eq_zero_iff.1 (by simpa using h)
    simp [this]
  | n + 1, cs, h => by
    rw [Nat.succ_mul] at h
    have e : ((List.range (n + 1)).map fun i => (cs.drop (i * c)).take c) = (cs.take c) :: ((List.range n).map fun i => ((cs.drop c).drop (i * c)).take c) := by
      rw [List.range_succ_eq_map, List.map_cons, List.map_map]
      congr 1
      · simp
      · apply List.map_congr_left
        intro i _
        simp only [Function.comp, List.drop_drop]
        rw [Nat.succ_mul, Nat.add_comm]
    rw [e, List.flatten_cons, chunks c n (cs.drop c) (by simp; omega), List.take_append_drop]
section
variable {P : Program}
theorem keyLits_int {d : Nat} {e : TypeId} {k : IntKind} {z : Int} (hu : P.underlying e = some (.int k)) (hw : (Lit.int k z).wf = true) : P.keyLits (d + 1) e [.int k z] = some (litsOf [.int k z]) := by
  unfold Program.keyLits
  simp [hu, hw, litsOf, litOf]
theorem keyLits_array {d : Nat} {t e : TypeId} {n : Nat} {cs : List Value} (hu : P.underlying t = some (.array n e)) (hs : P.cellsOf t = n * P.cellsOf e) (hl : cs.length = n * P.cellsOf e)
    (he : ∀ i, i < n → P.keyLits d e ((cs.drop (i * P.cellsOf e)).take (P.cellsOf e)) = some (litsOf ((cs.drop (i * P.cellsOf e)).take (P.cellsOf e)))) : P.keyLits (d + 1) t cs = some (litsOf cs) := by
  unfold Program.keyLits
  simp only [hu]
  rw [if_pos (by rw [hl, hs])]
  rw [mapM_some (g := fun i => litsOf ((cs.drop (i * P.cellsOf e)).take (P.cellsOf e))) _ (fun i hi => he i (by simpa using hi))]
  simp only [Option.map_some, Option.some.injEq]
  have := chunks (P.cellsOf e) n cs hl
  conv => rhs; rw [← this]
  unfold litsOf
  rw [List.map_flatten, List.map_map]
  rfl
/-- An array of whole numbers. -/
theorem keyLits_ints {d : Nat} {t e : TypeId} {n : Nat} {k : IntKind} {cs : List Value} (hu : P.underlying t = some (.array n e)) (hue : P.underlying e = some (.int k)) (he1 : P.cellsOf e = 1) (hs : P.cellsOf t = n) (hl : cs.length = n)
    (hk : ∀ (i : Nat) (x : Value), cs[i]? = some x → ∃ z, x = Value.int k z ∧ (Lit.int k z).wf = true) : P.keyLits (d + 2) t cs = some (litsOf cs) := by
  refine keyLits_array hu (by rw [he1, hs, Nat.mul_one]) (by rw [he1, hl, Nat.mul_one]) (fun i hi => ?_)
  rw [he1, Nat.mul_one]
  have hx : cs[i]? = some cs[i] := by simp [hl, hi]
  obtain ⟨z, h1, h2⟩ := hk i _ hx
  have e : (cs.drop i).take 1 = [.int k z] := by
    rw [List.drop_eq_getElem_cons (by omega), h1]
    rfl
  rw [e]
  exact keyLits_int hue h2
theorem eqAgg_of {t : TypeId} {m : Nat} {xs ys : List Value} (hm : m ≤ 10000) (hk : P.keyTypeAt m t = true) (hg : P.eqGuardType P.depth t = false) (fx : Value.formed P t (.agg ⟨xs⟩) = true) (fy : Value.formed P t (.agg ⟨ys⟩) = true) {D D' : Nat}
    (hx : P.keyLits D t xs = some (litsOf xs)) (hy : P.keyLits D' t ys = some (litsOf ys)) (hix : ∀ x ∈ xs, IntCell x) (hiy : ∀ y ∈ ys, IntCell y) {r : Bool} (hr0 : r = true ↔ xs = ys) : EqAgg P t xs ys r := by
  intro w
  refine ⟨fun op x y => run_eqGuard_agg w op t x y ⟨xs⟩ ⟨ys⟩ hg, ?_⟩
  obtain ⟨r', hr, hiff⟩ := run_equalIn_deep (10000 - m) m t hk w D D' (.agg ⟨xs⟩) (.agg ⟨ys⟩) _ _ fx fy hx hy
  have e : (Op.equal t (.agg ⟨xs⟩) (.agg ⟨ys⟩)).run P w = .ok r' w := by
    unfold Op.equal Op.maxDepth
    rw [show 10000 = 10000 - m + m by omega]
    exact hr
  rw [e]
  congr 1
  rw [Bool.eq_iff_iff, hiff, hr0]
  exact ⟨litsOf_inj hix hiy, fun h => by rw [h]⟩
end
end Go.V
/- Plain words: lists of strings. -/
set_option linter.unusedVariables false
set_option linter.unusedSimpArgs false
namespace Go.V
def sx (ws : List ByteArray) (i : Nat) : ByteArray := ws.getD i ⟨#[]⟩
@[irreducible] def strsC (ws : List ByteArray) : List Value := ws.map Value.string
theorem strsC_def (ws : List ByteArray) : strsC ws = ws.map Value.string := by unfold strsC; rfl
@[simp] theorem strsC_len (ws : List ByteArray) : (strsC ws).length = ws.length := by simp [strsC_def]
def strsD (m : Bool) (ws : List ByteArray) : D := .row m 1 (.v (.agg ⟨strsC ws⟩)) ws.length
theorem strN {ws : List ByteArray} {i o : Nat} (h : i < ws.length) (ho : o = i) : nth (strsC ws) o = some (.string (sx ws i)) := by
  subst ho
  rw [nth_eq, strsC_def, List.getElem?_map]
  unfold sx
  rw [List.getD_eq_getElem?_getD]
  simp [h]
theorem strA {ws : List ByteArray} {i : Nat} (h : i < ws.length) : nth (strsC ws) (0 + (i : Int).toNat * 1) = some (.string (sx ws i)) := strN h (by simp)
theorem strA' {ws : List ByteArray} {i : Nat} (h : i < ws.length) : nth (strsC ws) ((i : Int).toNat * 1) = some (.string (sx ws i)) := strN h (by simp)
theorem sx_mem {ws : List ByteArray} {i : Nat} (h : i < ws.length) : sx ws i ∈ ws := by
  unfold sx
  rw [List.getD_eq_getElem?_getD]
  simp [h]
end Go.V
/- Contracts of Go's library, off the kit's shelf, told in this calculus: numbers as texts, texts joined. -/
set_option linter.unusedVariables false
set_option linter.unusedSimpArgs false
namespace Go.V
theorem repL_v {w : World} {B : Nat} {xs : List Value} {vs : List Value} (h : RepL w B noLoc (xs.map .v) vs) : vs = xs := by
  induction xs generalizing vs with
  | nil => simpa [RepL] using h
  | cons x xs ih =>
    simp only [List.map_cons, RepL] at h
    obtain ⟨y, ys, rfl, h1, h2⟩ := h
    simp only [Rep] at h1
    rw [h1.1, ih h2]
end Go.V
namespace Go.Proofs.YtdbhfobnmlogeaaDoor
open Go.V
end Go.Proofs.YtdbhfobnmlogeaaDoor
/- Contracts: the oldest tile, the reference's side. -/
set_option linter.unusedVariables false
set_option linter.unusedSimpArgs false
namespace Go.V
end Go.V
namespace Go.Proofs.YtdbhfobnmlogeaaDoor
open Go.V
end Go.Proofs.YtdbhfobnmlogeaaDoor
/- Contracts: OldestOf, both sides, and the law. -/
set_option linter.unusedVariables false
set_option linter.unusedSimpArgs false
namespace Go.V
end Go.V
namespace Go.Proofs.YtdbhfobnmlogeaaDoor
open Go.V
end Go.Proofs.YtdbhfobnmlogeaaDoor
/- Contracts: FirstBreak, both sides, and the law. -/
set_option linter.unusedVariables false
set_option linter.unusedSimpArgs false
namespace Go.V
end Go.V
namespace Go.Proofs.YtdbhfobnmlogeaaDoor
open Go.V
end Go.Proofs.YtdbhfobnmlogeaaDoor
/- Contracts: equal grids and roofs; ages some years later, both sides, and the law. -/
set_option linter.unusedVariables false
set_option linter.unusedSimpArgs false
namespace Go.V
end Go.V
namespace Go.Proofs.YtdbhfobnmlogeaaDoor
open Go.V
end Go.Proofs.YtdbhfobnmlogeaaDoor
/- Contracts: lists of places by a function that carries values with it; marks in lists of places; tiles that are too old. -/
set_option linter.unusedVariables false
set_option linter.unusedSimpArgs false
namespace Go.V
/- Words for the walks of this text: their default arguments are tried where they are used. -/
end Go.V
namespace Go.V
/-- Cells with numbers one after another. -/
def marksC (k : Int) (n : Nat) : List Value := tab n fun j => .int .i8 (IntKind.i8.wrap (k + j))
@[simp] theorem marksC_len (k : Int) (n : Nat) : (marksC k n).length = n := by simp [marksC]
end Go.V
namespace Go.Proofs.YtdbhfobnmlogeaaDoor
open Go.V
end Go.Proofs.YtdbhfobnmlogeaaDoor
/- Contracts: marks in lists of places; tiles that are too old; broken roofs; the laws. -/
set_option linter.unusedVariables false
set_option linter.unusedSimpArgs false
namespace Go.V
theorem allP_eq (r : Roof) (p : Nat → Nat → Bool) : allP r p = (gridP r.w.toNat r.h.toNat).filter fun q => p q.1 q.2 := by
  unfold allP pick; simp
theorem allP_len {r : Roof} (hb : (1 ≤ r.w ∧ r.w ≤ 8) ∧ (1 ≤ r.h ∧ r.h ≤ 8) ∧ r.s ≤ 1) (p : Nat → Nat → Bool) : (allP r p).length ≤ 64 := by
  rw [allP_eq]
  refine Nat.le_trans (List.length_filter_le _ _) ?_
  rw [gridP_len]
  exact Nat.mul_le_mul (show r.h.toNat ≤ 8 by omega) (show r.w.toNat ≤ 8 by omega)
end Go.V
namespace Go.Proofs.YtdbhfobnmlogeaaDoor
open Go.V
end Go.Proofs.YtdbhfobnmlogeaaDoor
/- Contracts: broken roofs, both sides, and the law. -/
set_option linter.unusedVariables false
set_option linter.unusedSimpArgs false
namespace Go.V
theorem roofD_copied {r : Roof} {xs : List Value} (hx : xs.length = 67) : D.v (.agg ⟨((splice xs 0 (((roofC r).drop 0).take 67)).drop 0).take 67⟩) = roofD r := by
  rw [copied (n := 67) hx (by simp)]; rfl
end Go.V
namespace Go.Proofs.YtdbhfobnmlogeaaDoor
open Go.V
end Go.Proofs.YtdbhfobnmlogeaaDoor
/- Contracts: lists of whole numbers; visits; the law on visits. -/
set_option linter.unusedVariables false
set_option linter.unusedSimpArgs false
namespace Go.V
end Go.V
namespace Go.Proofs.YtdbhfobnmlogeaaDoor
open Go.V
end Go.Proofs.YtdbhfobnmlogeaaDoor
/- Contracts: visits that are checked, both sides, and the law. -/
set_option linter.unusedVariables false
set_option linter.unusedSimpArgs false
namespace Go.V
end Go.V
namespace Go.Proofs.YtdbhfobnmlogeaaDoor
open Go.V
end Go.Proofs.YtdbhfobnmlogeaaDoor
/- Contracts: all words, patterns found again, both sides, and the law. -/
set_option linter.unusedVariables false
set_option linter.unusedSimpArgs false
namespace Go.V
/- Words for the walks of this text: their default arguments are tried where they are used. -/
theorem go_C24 {P Q : Prop} (k : Q) (h : P := by first | (with_reducible refine strLe1 ?_; omega) | exact rfl | decide | omega | (simp [splice]; done) | (constructor <;> omega) | (simp [splice]; omega)) : P ∧ Q := ⟨h, k⟩
theorem lk_C24 {α : Type} {o : Option α} {K : α → Prop} {x : α} (k : K x) (h : o = some x := by first | exact wordA (by omega) | exact rowN (by omega)) : optK o K := optK_of h k
theorem sc_C24 {P : Program} {g : FuncId} {args args' : List D} {res : D} (h : Sat P g args res) (e : args' = args := by repeat (first | rfl | exact vfull (by first | (simp [splice]; done) | (simp [splice]; omega)) | exact rfull (by first | (simp [splice]; done) | (simp [splice]; omega)) | exact vplace (by simp; done) (by omega) | exact vrow (by simp; done) (by omega) | exact vtiles (by simp) | exact vsplice (by simp) (by simp) | refine ceq ?_ ?_ | refine Eq.trans (vsplice (by first | (simp; done) | (simp; omega)) (by first | (simp; done) | (simp; omega))) ?_)) : Sat P g args' res := Sat.of_eq h e
theorem hold_C24 {P : Prop} (h : P := by (repeat' (first | exact trivial | apply And.intro)) <;> (first | rfl | exact succ8 (by omega) | exact succ64 (by omega) | exact CapOk.fn (by assumption) _ _ | exact vintS (by omega) | exact vintS (by rw [w64 (by omega) (by omega)]; omega) | exact vintS (by rw [w8 (by omega) (by omega)]; omega) | exact vslcS (by omega) | exact vslcS (by simp))) : P := h
theorem okt_C24 {P : Prop} (h : P := by first | omega | (dsimp only; omega) | ((repeat' apply And.intro) <;> omega) | (dsimp only; (repeat' apply And.intro) <;> omega) | trivial) : P := h
end Go.V
namespace Go.V
def letB : ByteArray := ⟨#[98]⟩
def letR : ByteArray := ⟨#[114]⟩
/-- The j-th word of n letters. -/
def word : Nat → Nat → ByteArray
  | 0, _ => ⟨#[]⟩
  | n + 1, j => word n (j / 2) ++ (if j % 2 = 1 then letR else letB)
@[simp] theorem word_size : ∀ n j, (word n j).size = n
  | 0, _ => rfl
  | n + 1, j => by
    have h1 := word_size n (j / 2)
    have h2 : (if j % 2 = 1 then letR else letB).size = 1 := by split <;> rfl
    simp only [word, ByteArray.size_append, h1, h2]
@[irreducible] def wordsC (n m : Nat) : List Value := tab m fun j => .string (word n j)
@[simp] theorem wordsC_len (n m : Nat) : (wordsC n m).length = m := by unfold wordsC; simp
theorem wordA {n m i : Nat} (h : i < m) : nth (wordsC n m) (0 + (i : Int).toNat * 1) = some (.string (word n i)) := by
  unfold wordsC; rw [nth_tab (by simpa using h)]; simp
theorem wordsC_two (n i : Nat) : wordsC (n + 1) (2 * i) ++ [.string (word n i ++ letB), .string (word n i ++ letR)] = wordsC (n + 1) (2 * (i + 1)) := by
  unfold wordsC
  rw [tab_def, tab_def, show 2 * (i + 1) = 2 * i + 1 + 1 by omega, List.range_succ, List.range_succ, List.map_append, List.map_append, List.append_assoc]
  congr 1
  simp only [List.map_cons, List.map_nil, List.singleton_append, word]
  have h1 : 2 * i / 2 = i := by omega
  have h2 : (2 * i + 1) / 2 = i := by omega
  rw [h1, h2, if_neg (by omega), if_pos (by omega)]
theorem wordsC_nil (n : Nat) : wordsC n 0 = [] := List.length_eq_zero_iff.1 (by simp)
theorem wordsC_first : wordsC 0 1 = [.string ⟨#[]⟩] := by unfold wordsC; rw [tab_def]; rfl
theorem acc_in (b : ByteArray) (s : Nat) (ps : List Pl) : RowIn (acc b s ps) := by
  unfold acc
  suffices h : ∀ (ps : List Pl) (f : Nat → Int), RowIn f → RowIn (ps.foldl (accS b s) f) from h ps _ ⟨fun _ => by omega⟩
  intro ps
  induction ps with
  | nil => intro f h; exact h
  | cons q ps ih =>
    intro f h
    refine ih _ ⟨fun j => ?_⟩
    unfold accS
    split
    · unfold orU8
      simp only [IntKind.wrap, IntKind.bits, IntKind.signed]
      simp
      omega
    · exact h.t j
/-- Whether a pattern is some colours. -/
def eq8 (f g : Nat → Int) : Bool := (List.range 8).all fun i => f i == g i
theorem eq8_iff {f g : Nat → Int} : eq8 f g = true ↔ row8 f = row8 g := by
  unfold eq8
  simp only [List.all_eq_true, List.mem_range, beq_iff_eq]
  constructor
  · intro h
    unfold row8
    exact tab_congr fun i hi => by rw [h i hi]
  · intro h i hi
    have h1 := row8_get (f := f) (i := i) (k := i) rfl hi
    have h2 := row8_get (f := g) (i := i) (k := i) rfl hi
    rw [h, h2] at h1
    simpa using h1.symm
def isPat (r : Roof) (f : Nat → Int) (n j s : Nat) : Bool := eq8 (patR r (word n j) s) f
def findS (r : Roof) (f : Nat → Int) (n j : Nat) : Option Nat := (List.range n).find? fun s => isPat r f n j s
def findJ (r : Roof) (f : Nat → Int) (n : Nat) : Option (Nat × Nat) := (List.range (2 ^ n)).findSome? fun j => (findS r f n j).map fun s => (j, s)
def findN (r : Roof) (f : Nat → Int) (m : Nat) : Option (Nat × Nat × Nat) := (List.range m).findSome? fun n => (findJ r f (n + 1)).map fun q => (n + 1, q)
theorem find_some {p : Nat → Bool} {n s : Nat} (h : s < n) (hp : p s = true) (hno : ∀ j, j < s → p j = false) : (List.range n).find? p = some s := by
  rw [List.find?_range_eq_some]
  exact ⟨hp, by simpa using h, fun j hj => by simp [hno j hj]⟩
theorem find_none {p : Nat → Bool} {n : Nat} (hno : ∀ j, j < n → p j = false) : (List.range n).find? p = none := by
  rw [List.find?_eq_none]
  intro x hx
  simp [hno x (by simpa using hx)]
theorem findSome_some {α : Type} {g : Nat → Option α} {x : α} : ∀ {n s : Nat}, s < n → g s = some x → (∀ j, j < s → g j = none) → (List.range n).findSome? g = some x
  | 0, s, h, _, _ => by omega
  | n + 1, s, h, hp, hno => by
    rw [List.range_succ, List.findSome?_append]
    by_cases hs : s < n
    · rw [findSome_some hs hp hno]; rfl
    · have : s = n := by omega
      subst this
      have : (List.range s).findSome? g = none := by
        rw [List.findSome?_eq_none_iff]
        intro j hj
        exact hno j (by simpa using hj)
      rw [this]
      simp [hp]
theorem findSome_none {α : Type} {g : Nat → Option α} {n : Nat} (hno : ∀ j, j < n → g j = none) : (List.range n).findSome? g = none := by
  rw [List.findSome?_eq_none_iff]
  intro j hj
  exact hno j (by simpa using hj)
def pofD (r : Roof) (f : Nat → Int) (m : Int) : D :=
  if okC r f = true then (if 1 ≤ m ∧ m ≤ 5 then (match findN r f m.toNat with
    | some (n, j, s) => .tup [.v (.string (word n j)), .v (.int .i64 s), .v (.int .i64 0)]
    | none => .tup [.v (.string ⟨#[]⟩), .v (.int .i64 0), .v (.int .i64 6)]) else .tup [.v (.string ⟨#[]⟩), .v (.int .i64 0), .v (.int .i64 2)])
  else .tup [.v (.string ⟨#[]⟩), .v (.int .i64 0), .v (.int .i64 1)]
theorem okC_bounds {r : Roof} {f : Nat → Int} (h : okC r f = true) : (1 ≤ r.w ∧ r.w ≤ 8) ∧ (1 ≤ r.h ∧ r.h ≤ 8) ∧ r.s ≤ 1 := by
  simp only [okC, Bool.and_eq_true] at h
  exact okR_bounds h.1
theorem below_succ {p : Nat → Prop} {q : Nat} (h : ∀ k, k < q → p k) (hq : p q) : ∀ k, k < q + 1 → p k := by
  intro k hk
  by_cases e : k = q
  · subst e; exact hq
  · exact h k (by omega)
end Go.V
namespace Go.Proofs.YtdbhfobnmlogeaaDoor
open Go.V
theorem eqAgg_row8 {f g : Nat → Int} (hf : RowIn f) (hg : RowIn g) : EqAgg Tryd.prog 27 (row8 f) (row8 g) (eq8 f g) := by
  have fit : ∀ h : Nat → Int, RowIn h → ∀ (i : Nat) (x : Value), (row8 h)[i]? = some x → ∃ z, x = Value.int .u8 z ∧ (Lit.int .u8 z).wf = true := by
    intro h hh i x hx
    unfold row8 at hx
    by_cases hi : i < 8
    · rw [tab_get hi] at hx
      simp only [Option.some.injEq] at hx
      subst hx
      refine ⟨_, rfl, ?_⟩
      have := hh.t i
      simp [Lit.wf, IntKind.min, IntKind.max, IntKind.bits, IntKind.signed]
      omega
    · rw [tab_none (by omega)] at hx; cases hx
  have cells : ∀ h : Nat → Int, RowIn h → ∀ x ∈ row8 h, IntCell x := by
    intro h hh x hx
    obtain ⟨i, hi⟩ := List.getElem?_of_mem hx
    obtain ⟨z, rfl, hz⟩ := fit h hh i x hi
    exact hz
  have hc : Program.cellsOf Tryd.prog 27 = 8 := by kernel_rfl
  have fm : ∀ h : Nat → Int, Value.formed Tryd.prog 27 (.agg ⟨row8 h⟩) = true := by
    intro h
    unfold Value.formed
    rw [Tryd.underlying27]
    simp [hc]
  have kl : ∀ h : Nat → Int, RowIn h → Program.keyLits Tryd.prog 2 27 (row8 h) = some (litsOf (row8 h)) := fun h hh =>
    keyLits_ints (d := 0) Tryd.underlying27 Tryd.underlying5 (by kernel_rfl) hc (by simp) (fit h hh)
  exact eqAgg_of (m := 2) (by omega) (by kernel_rfl) (by kernel_rfl) (fm f) (fm g) (kl f hf) (kl g hg) (cells f hf) (cells g hg) eq8_iff
theorem wordsOf_sat (n : Nat) (hn : n ≤ 5) : Sat Tryd.prog 111 [.v (.int .i64 n)] (.row true 1 (.v (.agg ⟨wordsC n (2 ^ n)⟩)) (2 ^ n)) := by
  refine sat_of_wp hMix tOk Tryd.func111 rfl rfl Tryd.ntmps111 rfl rfl Tryd.results111 (by kernel_rfl) ?_
  conv => whnf
  repeat (first | (refine go_C24 ?_; conv => whnf) | (refine lk_C24 ?_; conv => whnf))
  refine loop_rule (α := Nat) (fun i => [(3, .slc true 1 (7, 0, 0) 0 (2 ^ i)), (8, .v (.int .i64 n)), (9, .v (.int .i64 i))]) (fun i => [((7, 0, 0), .v (.agg ⟨wordsC i (2 ^ i)⟩))]) (fun i => i ≤ n) (fun i => n - i) (0) ?_ (sim_of (rn := [((7, 0, 0), (7, 0, 0))]) rfl ?_ ?_) ?_
  · exact okt_C24
  · exact hold_C24
  · ((repeat' (first | exact trivial | apply And.intro)) <;> ((first | refine ⟨_, _, rfl, rfl, ?_⟩ ); first | rfl | (exact cset wordsC_first.symm)))
  intro i hi
  have hp : 2 ^ i ≤ 32 := by
    have : 2 ^ i ≤ 2 ^ 5 := Nat.pow_le_pow_right (by omega) (by omega)
    omega
  conv => whnf
  repeat (first | (refine go_C24 ?_; conv => whnf) | (refine lk_C24 ?_; conv => whnf))
  cases h : decide ((i : Int) < (n : Int))
  · have hin : i = n := by simp at h; omega
    subst hin
    conv => whnf
    repeat (first | (refine go_C24 ?_; conv => whnf) | (refine lk_C24 ?_; conv => whnf))
    first | refine ⟨rfl, _, rfl, ?_⟩ | refine ⟨_, rfl, ?_⟩
    rfl
  have hin : i < n := by simpa using h
  conv => whnf
  repeat (first | (refine go_C24 ?_; conv => whnf) | (refine lk_C24 ?_; conv => whnf))
  generalize hP : 2 ^ i = p at *
  refine loop_rule (α := Nat) (fun j => [(4, .slc true 1 (23, 0, 0) 0 (2 * j)), (8, .v (.int .i64 n)), (9, .v (.int .i64 i)), (11, .slc true 1 (7, 0, 0) 0 p), (12, .v (.int .i64 p)), (13, .v (.int .i64 j))]) (fun j => [((7, 0, 0), .v (.agg ⟨wordsC i p⟩)), ((23, 0, 0), .v (.agg ⟨wordsC (i + 1) (2 * j)⟩))]) (fun j => j ≤ p) (fun j => p - j) (0) ?_ (sim_of (rn := [((7, 0, 0), (7, 0, 0)), ((23, 0, 0), nilId)]) rfl ?_ ?_) ?_
  · exact okt_C24
  · exact hold_C24
  · ((repeat' (first | exact trivial | apply And.intro)) <;> ((first | refine ⟨_, _, rfl, rfl, ?_⟩ ); first | rfl | (rw [Nat.mul_zero, wordsC_nil]; rfl)))
  intro j hj
  conv => whnf
  repeat (first | (refine go_C24 ?_; conv => whnf) | (refine lk_C24 ?_; conv => whnf))
  cases h2 : decide ((j : Int) < (p : Int))
  · have hjn : j = p := by simp at h2; omega
    subst hjn
    conv => whnf
    repeat (first | (refine go_C24 ?_; conv => whnf) | (refine lk_C24 ?_; conv => whnf))
    have e : 2 * j = 2 ^ (i + 1) := by rw [Nat.pow_succ, hP]; omega
    rw [e]
    refine ⟨i + 1, ?_, ?_, sim_of (rn := [((7, 0, 0), (23, 0, 0))]) rfl ?_ ?_⟩
    · (dsimp only; omega)
    · exact okt_C24
    · exact hold_C24
    · ((repeat' (first | exact trivial | apply And.intro)) <;> ((first | refine ⟨_, _, rfl, rfl, ?_⟩ ); rfl))
  have hjn : j < p := by simpa using h2
  have hsz := word_size i j
  conv => whnf
  repeat (first | (refine go_C24 ?_; conv => whnf) | (refine lk_C24 ?_; conv => whnf))
  refine ⟨j + 1, ?_, ?_, sim_of (rn := [((7, 0, 0), (7, 0, 0)), ((23, 0, 0), (23, 1, 0))]) rfl ?_ ?_⟩
  · (dsimp only; omega)
  · exact okt_C24
  · exact hold_C24
  · ((repeat' (first | exact trivial | apply And.intro)) <;> ((first | refine ⟨_, _, rfl, rfl, ?_⟩ ); first | rfl | (exact cset (wordsC_two i j))))
theorem eqAgg_eq {f g : Nat → Int} {xs ys : List Value} (h1 : xs = row8 f) (h2 : ys = row8 g) (hf : RowIn f) (hg : RowIn g) : EqAgg Tryd.prog 27 xs ys (eq8 f g) := by
  rw [h1, h2]; exact eqAgg_row8 hf hg
theorem patternOf_sat (r : Roof) (hr : r.In) (f : Nat → Int) (hf : RowIn f) (m : Int) (hm : I64 m) : Sat Tryd.prog 51 [roofD r, row8D f, .v (.int .i64 m)] (pofD r f m) := by
  refine sat_of_wp hMix tOk Tryd.func51 rfl rfl Tryd.ntmps51 rfl rfl Tryd.results51 (by kernel_rfl) ?_
  conv => whnf
  repeat (first | (refine go_C24 ?_; conv => whnf) | (refine lk_C24 ?_; conv => whnf))
  first | refine ⟨_, _, rfl, sc_C24 (validColours_sat r hr f hf), ?_⟩ | refine .inl ⟨_, _, rfl, sc_C24 (validColours_sat r hr f hf), ?_⟩
  conv => whnf
  repeat (first | (refine go_C24 ?_; conv => whnf) | (refine lk_C24 ?_; conv => whnf))
  cases h1 : okC r f
  · conv => whnf
    repeat (first | (refine go_C24 ?_; conv => whnf) | (refine lk_C24 ?_; conv => whnf))
    first | refine ⟨rfl, _, rfl, ?_⟩ | refine ⟨_, rfl, ?_⟩
    skip
    unfold pofD; rw [h1]; rfl
  conv => whnf
  repeat (first | (refine go_C24 ?_; conv => whnf) | (refine lk_C24 ?_; conv => whnf))
  first | refine ⟨_, _, rfl, sc_C24 (within64_sat _ _ _), ?_⟩ | refine .inl ⟨_, _, rfl, sc_C24 (within64_sat _ _ _), ?_⟩
  conv => whnf
  repeat (first | (refine go_C24 ?_; conv => whnf) | (refine lk_C24 ?_; conv => whnf))
  cases h2 : (decide (1 ≤ m) && decide (m ≤ 5))
  · conv => whnf
    repeat (first | (refine go_C24 ?_; conv => whnf) | (refine lk_C24 ?_; conv => whnf))
    first | refine ⟨rfl, _, rfl, ?_⟩ | refine ⟨_, rfl, ?_⟩
    skip
    have : ¬ (1 ≤ m ∧ m ≤ 5) := by simp at h2; omega
    unfold pofD; rw [h1, if_pos rfl, if_neg this]; rfl
  have hm15 : 1 ≤ m ∧ m ≤ 5 := by simpa using h2
  have hb := okC_bounds h1
  have hres : pofD r f m = match findN r f m.toNat with
    | some (n, j, s) => .tup [.v (.string (word n j)), .v (.int .i64 s), .v (.int .i64 0)]
    | none => .tup [.v (.string ⟨#[]⟩), .v (.int .i64 0), .v (.int .i64 6)] := by unfold pofD; rw [h1, if_pos rfl, if_pos hm15]
  rw [hres]
  obtain ⟨M, rfl⟩ := eq_toNat (x := m) (by omega)
  rw [Int.toNat_natCast]
  conv => whnf
  repeat (first | (refine go_C24 ?_; conv => whnf) | (refine lk_C24 ?_; conv => whnf))
  refine loop_rule (α := Nat) (fun q => [(2, .v (.int .i64 M)), (3, .ptr (3, 0, 0) 0), (4, .ptr (4, 0, 0) 0), (9, .v (.int .i64 ((q + 1 : Nat) : Int)))]) (fun q => [((3, 0, 0), roofD r), ((4, 0, 0), row8D f)]) (fun q => q ≤ M ∧ ∀ k, k < q → findJ r f (k + 1) = none) (fun q => M - q) (0) ?_ (sim_of (rn := [((3, 0, 0), (3, 0, 0)), ((4, 0, 0), (4, 0, 0))]) rfl ?_ ?_) ?_
  · exact ⟨Nat.zero_le _, by omega⟩
  · exact hold_C24
  · ((repeat' (first | exact trivial | apply And.intro)) <;> ((first | refine ⟨_, _, rfl, rfl, ?_⟩ ); rfl))
  rintro q ⟨hq, hno⟩
  conv => whnf
  repeat (first | (refine go_C24 ?_; conv => whnf) | (refine lk_C24 ?_; conv => whnf))
  cases h3 : decide (((q + 1 : Nat) : Int) ≤ (M : Int))
  · have hqM : q = M := by simp at h3; omega
    subst hqM
    have : findN r f q = none := findSome_none fun j hj => by rw [hno j hj]; rfl
    rw [this]
    conv => whnf
    repeat (first | (refine go_C24 ?_; conv => whnf) | (refine lk_C24 ?_; conv => whnf))
    first | refine ⟨rfl, _, rfl, ?_⟩ | refine ⟨_, rfl, ?_⟩
    rfl
  have hqM : q < M := by simp at h3; omega
  have hpow : 2 ^ (q + 1) ≤ 32 := by
    have : 2 ^ (q + 1) ≤ 2 ^ 5 := Nat.pow_le_pow_right (by omega) (by omega)
    omega
  conv => whnf
  repeat (first | (refine go_C24 ?_; conv => whnf) | (refine lk_C24 ?_; conv => whnf))
  first | refine ⟨_, _, rfl, sc_C24 (wordsOf_sat (q + 1) (by omega)), ?_⟩ | refine .inl ⟨_, _, rfl, sc_C24 (wordsOf_sat (q + 1) (by omega)), ?_⟩
  conv => whnf
  repeat (first | (refine go_C24 ?_; conv => whnf) | (refine lk_C24 ?_; conv => whnf))
  refine loop_rule (α := Nat) (fun j => [(2, .v (.int .i64 M)), (3, .ptr (3, 0, 0) 0), (4, .ptr (4, 0, 0) 0), (9, .v (.int .i64 ((q + 1 : Nat) : Int))), (28, .slc true 1 (28, 0, 0) 0 (2 ^ (q + 1))), (29, .v (.int .i64 ((2 ^ (q + 1) : Nat) : Int))), (30, .v (.int .i64 j))]) (fun j => [((3, 0, 0), roofD r), ((4, 0, 0), row8D f), ((28, 0, 0), .v (.agg ⟨wordsC (q + 1) (2 ^ (q + 1))⟩))]) (fun j => j ≤ 2 ^ (q + 1) ∧ ∀ k, k < j → findS r f (q + 1) k = none) (fun j => 2 ^ (q + 1) - j) (0) ?_ (sim_of (rn := [((3, 0, 0), (3, 0, 0)), ((4, 0, 0), (4, 0, 0)), ((28, 0, 0), (28, 1, 0))]) rfl ?_ ?_) ?_
  · exact ⟨Nat.zero_le _, by omega⟩
  · exact hold_C24
  · ((repeat' (first | exact trivial | apply And.intro)) <;> ((first | refine ⟨_, _, rfl, rfl, ?_⟩ ); rfl))
  rintro j ⟨hj, hnoj⟩
  conv => whnf
  repeat (first | (refine go_C24 ?_; conv => whnf) | (refine lk_C24 ?_; conv => whnf))
  cases h4 : decide ((j : Int) < ((2 ^ (q + 1) : Nat) : Int))
  · have hjn : j = 2 ^ (q + 1) := by simp only [decide_eq_false_iff_not] at h4; omega
    have hJ : findJ r f (q + 1) = none := findSome_none fun k hk => by rw [hnoj k (by omega)]; rfl
    conv => whnf
    repeat (first | (refine go_C24 ?_; conv => whnf) | (refine lk_C24 ?_; conv => whnf))
    have hno' := below_succ (p := fun k => findJ r f (k + 1) = none) hno hJ
    refine ⟨q + 1, ?_, ?_, sim_of (rn := [((3, 0, 0), (3, 0, 0)), ((4, 0, 0), (4, 0, 0))]) rfl ?_ ?_⟩
    · (dsimp only; omega)
    · exact ⟨by omega, hno'⟩
    · exact hold_C24
    · ((repeat' (first | exact trivial | apply And.intro)) <;> ((first | refine ⟨_, _, rfl, rfl, ?_⟩ ); rfl))
  have hjn : j < 2 ^ (q + 1) := by simp only [decide_eq_true_eq] at h4; omega
  conv => whnf
  repeat (first | (refine go_C24 ?_; conv => whnf) | (refine lk_C24 ?_; conv => whnf))
  refine loop_rule (α := Nat) (fun s => [(2, .v (.int .i64 M)), (3, .ptr (3, 0, 0) 0), (4, .ptr (4, 0, 0) 0), (9, .v (.int .i64 ((q + 1 : Nat) : Int))), (11, .v (.string (word (q + 1) j))), (28, .slc true 1 (28, 0, 0) 0 (2 ^ (q + 1))), (29, .v (.int .i64 ((2 ^ (q + 1) : Nat) : Int))), (30, .v (.int .i64 j)), (34, .v (.int .i64 ((q + 1 : Nat) : Int))), (35, .v (.int .i64 s))]) (fun s => [((3, 0, 0), roofD r), ((4, 0, 0), row8D f), ((28, 0, 0), .v (.agg ⟨wordsC (q + 1) (2 ^ (q + 1))⟩))]) (fun s => s ≤ q + 1 ∧ ∀ k, k < s → isPat r f (q + 1) j k = false) (fun s => q + 1 - s) (0) ?_ (sim_of (rn := [((3, 0, 0), (3, 0, 0)), ((4, 0, 0), (4, 0, 0)), ((28, 0, 0), (28, 0, 0))]) rfl ?_ ?_) ?_
  · exact ⟨Nat.zero_le _, by omega⟩
  · exact hold_C24
  · ((repeat' (first | exact trivial | apply And.intro)) <;> ((first | refine ⟨_, _, rfl, rfl, ?_⟩ ); rfl))
  rintro s ⟨hs, hnos⟩
  conv => whnf
  repeat (first | (refine go_C24 ?_; conv => whnf) | (refine lk_C24 ?_; conv => whnf))
  cases h5 : decide ((s : Int) < ((q + 1 : Nat) : Int))
  · have hsq : s = q + 1 := by simp only [decide_eq_false_iff_not] at h5; omega
    have hS : findS r f (q + 1) j = none := find_none fun k hk => hnos k (by omega)
    have hnoj' := below_succ (p := fun k => findS r f (q + 1) k = none) hnoj hS
    conv => whnf
    repeat (first | (refine go_C24 ?_; conv => whnf) | (refine lk_C24 ?_; conv => whnf))
    refine ⟨j + 1, ?_, ?_, sim_of (rn := [((3, 0, 0), (3, 0, 0)), ((4, 0, 0), (4, 0, 0)), ((28, 0, 0), (28, 0, 0))]) rfl ?_ ?_⟩
    · (dsimp only; omega)
    · exact ⟨by omega, hnoj'⟩
    · exact hold_C24
    · ((repeat' (first | exact trivial | apply And.intro)) <;> ((first | refine ⟨_, _, rfl, rfl, ?_⟩ ); rfl))
  have hsq : s < q + 1 := by simp only [decide_eq_true_eq] at h5; omega
  conv => whnf
  repeat (first | (refine go_C24 ?_; conv => whnf) | (refine lk_C24 ?_; conv => whnf))
  first | refine ⟨_, _, rfl, sc_C24 (pattern_sat r hr hb (word (q + 1) j) (by simp; omega) s (by omega)), ?_⟩ | refine .inl ⟨_, _, rfl, sc_C24 (pattern_sat r hr hb (word (q + 1) j) (by simp; omega) s (by omega)), ?_⟩
  conv => whnf
  repeat (first | (refine go_C24 ?_; conv => whnf) | (refine lk_C24 ?_; conv => whnf))
  refine ⟨_, eqAgg_eq (f := patR r (word (q + 1) j) s) (g := f) rfl (take_drop0 (by simp)) (acc_in _ _ _) hf, ?_⟩
  conv => whnf
  rw [show eq8 (patR r (word (q + 1) j) s) f = isPat r f (q + 1) j s from rfl]
  cases h6 : isPat r f (q + 1) j s
  · have hnos' := below_succ (p := fun k => isPat r f (q + 1) j k = false) hnos h6
    conv => whnf
    repeat (first | (refine go_C24 ?_; conv => whnf) | (refine lk_C24 ?_; conv => whnf))
    refine ⟨s + 1, ?_, ?_, sim_of (rn := [((3, 0, 0), (3, 0, 0)), ((4, 0, 0), (4, 0, 0)), ((28, 0, 0), (28, 0, 0))]) rfl ?_ ?_⟩
    · (dsimp only; omega)
    · exact ⟨by omega, hnos'⟩
    · exact hold_C24
    · ((repeat' (first | exact trivial | apply And.intro)) <;> ((first | refine ⟨_, _, rfl, rfl, ?_⟩ ); rfl))
  have hS : findS r f (q + 1) j = some s := find_some hsq h6 hnos
  have hJ : findJ r f (q + 1) = some (j, s) := findSome_some (s := j) hjn (by rw [hS]; rfl) fun k hk => by rw [hnoj k hk]; rfl
  have hN : findN r f M = some (q + 1, j, s) := findSome_some (s := q) hqM (by rw [hJ]; rfl) fun k hk => by rw [hno k hk]; rfl
  rw [hN]
  conv => whnf
  repeat (first | (refine go_C24 ?_; conv => whnf) | (refine lk_C24 ?_; conv => whnf))
  first | refine ⟨rfl, _, rfl, ?_⟩ | refine ⟨_, rfl, ?_⟩
  rfl
end Go.Proofs.YtdbhfobnmlogeaaDoor
/- Contracts: patterns found again, the reference's side, and the law. -/
set_option linter.unusedVariables false
set_option linter.unusedSimpArgs false
namespace Go.V
/- Words for the walks of this text: their default arguments are tried where they are used. -/
theorem go_C25 {P Q : Prop} (k : Q) (h : P := by first | (with_reducible refine strLe1 ?_; omega) | exact rfl | decide | omega | (simp [splice]; done) | (constructor <;> omega) | (simp [splice]; omega)) : P ∧ Q := ⟨h, k⟩
theorem lk_C25 {α : Type} {o : Option α} {K : α → Prop} {x : α} (k : K x) (h : o = some x := by first | exact wordA (by omega) | exact rowN (by omega)) : optK o K := optK_of h k
theorem sc_C25 {P : Program} {g : FuncId} {args args' : List D} {res : D} (h : Sat P g args res) (e : args' = args := by repeat (first | rfl | exact vfull (by first | (simp [splice]; done) | (simp [splice]; omega)) | exact rfull (by first | (simp [splice]; done) | (simp [splice]; omega)) | exact vplace (by simp; done) (by omega) | exact vrow (by simp; done) (by omega) | exact vtiles (by simp) | exact vsplice (by simp) (by simp) | refine ceq ?_ ?_ | refine Eq.trans (vsplice (by first | (simp; done) | (simp; omega)) (by first | (simp; done) | (simp; omega))) ?_)) : Sat P g args' res := Sat.of_eq h e
theorem leaf_C25 {P : Prop} (h : P := by first | rfl | exact succ8 (by omega) | exact succ64 (by omega) | exact CapOk.fn (by assumption) _ _ | exact vintS (by omega) | exact vintS (by rw [w64 (by omega) (by omega)]; omega) | exact vintS (by rw [w8 (by omega) (by omega)]; omega) | exact vslcS (by omega) | exact vslcS (by simp)) : P := h
theorem hold_C25 {P : Prop} (h : P := by (repeat' (first | exact trivial | apply And.intro)) <;> (first | rfl | exact succ8 (by omega) | exact succ64 (by omega) | exact CapOk.fn (by assumption) _ _ | exact vintS (by omega) | exact vintS (by rw [w64 (by omega) (by omega)]; omega) | exact vintS (by rw [w8 (by omega) (by omega)]; omega) | exact vslcS (by omega) | exact vslcS (by simp))) : P := h
theorem okt_C25 {P : Prop} (h : P := by first | omega | (dsimp only; omega) | ((repeat' apply And.intro) <;> omega) | (dsimp only; (repeat' apply And.intro) <;> omega) | trivial) : P := h
end Go.V
namespace Go.V
theorem shl_pow {n : Nat} (h : n ≤ 5) : IntKind.i64.wrap (1 * 2 ^ (min (IntKind.u64.wrap (n : Int)).toNat IntKind.i64.bits)) = ((2 ^ n : Nat) : Int) := by
  rw [wu64 (by omega) (by omega), Int.toNat_natCast]
  have : n = 0 ∨ n = 1 ∨ n = 2 ∨ n = 3 ∨ n = 4 ∨ n = 5 := by omega
  rcases this with rfl | rfl | rfl | rfl | rfl | rfl <;> decide
theorem shr_bit {j k : Nat} (h : k ≤ 5) : (((j : Int).fdiv (2 ^ (min (IntKind.u64.wrap (k : Int)).toNat IntKind.i64.bits))).tmod 2) = ((j / 2 ^ k % 2 : Nat) : Int) := by
  rw [wu64 (by omega) (by omega), Int.toNat_natCast, show min k IntKind.i64.bits = k by simp [IntKind.bits]; omega]
  rw [show ((2 : Int) ^ k) = ((2 ^ k : Nat) : Int) by simp, Int.fdiv_eq_ediv_of_nonneg _ (Int.natCast_nonneg _)]
  rfl
def brB : ByteArray := ⟨#[98, 114]⟩
theorem br_letter {x : Nat} (h : x < 2) : brB.extract (x : Int).toNat (((x + 1 : Nat) : Int)).toNat = if x % 2 = 1 then letR else letB := by
  have : x = 0 ∨ x = 1 := by omega
  rcases this with rfl | rfl <;> rfl
theorem word_step {t n j : Nat} (h : t < n) : word t (j / 2 ^ (n - t)) ++ (if j / 2 ^ (n - 1 - t) % 2 % 2 = 1 then letR else letB) = word (t + 1) (j / 2 ^ (n - (t + 1))) := by
  rw [show n - 1 - t = n - (t + 1) by omega]
  show _ = word t (j / 2 ^ (n - (t + 1)) / 2) ++ (if j / 2 ^ (n - (t + 1)) % 2 = 1 then letR else letB)
  rw [Nat.div_div_eq_div_mul, ← Nat.pow_succ, show (n - (t + 1)).succ = n - t by omega, Nat.mod_mod]
end Go.V
namespace Go.Proofs.YtdbhfobnmlogeaaDoor
open Go.V
theorem specPatternOf_sat (r : Roof) (hr : r.In) (f : Nat → Int) (hf : RowIn f) (m : Int) (hm : I64 m) : Sat Tryd.prog 52 [roofD r, row8D f, .v (.int .i64 m)] (pofD r f m) := by
  refine sat_of_wp hMix tOk Tryd.func52 rfl rfl Tryd.ntmps52 rfl rfl Tryd.results52 (by kernel_rfl) ?_
  conv => whnf
  repeat (first | (refine go_C25 ?_; conv => whnf) | (refine lk_C25 ?_; conv => whnf))
  first | refine ⟨_, _, rfl, sc_C25 (l07Colours_sat r hr f hf), ?_⟩ | refine .inl ⟨_, _, rfl, sc_C25 (l07Colours_sat r hr f hf), ?_⟩
  conv => whnf
  repeat (first | (refine go_C25 ?_; conv => whnf) | (refine lk_C25 ?_; conv => whnf))
  cases h1 : okC r f
  · conv => whnf
    repeat (first | (refine go_C25 ?_; conv => whnf) | (refine lk_C25 ?_; conv => whnf))
    first | refine ⟨rfl, _, rfl, ?_⟩ | refine ⟨_, rfl, ?_⟩
    skip
    unfold pofD; rw [h1]; rfl
  conv => whnf
  repeat (first | (refine go_C25 ?_; conv => whnf) | (refine lk_C25 ?_; conv => whnf))
  first | refine ⟨_, _, rfl, sc_C25 (l00In_sat _ _ _), ?_⟩ | refine .inl ⟨_, _, rfl, sc_C25 (l00In_sat _ _ _), ?_⟩
  conv => whnf
  repeat (first | (refine go_C25 ?_; conv => whnf) | (refine lk_C25 ?_; conv => whnf))
  cases h2 : (decide (m ≥ 1) && decide (m ≤ 5))
  · conv => whnf
    repeat (first | (refine go_C25 ?_; conv => whnf) | (refine lk_C25 ?_; conv => whnf))
    first | refine ⟨rfl, _, rfl, ?_⟩ | refine ⟨_, rfl, ?_⟩
    skip
    have : ¬ (1 ≤ m ∧ m ≤ 5) := by simp at h2; omega
    unfold pofD; rw [h1, if_pos rfl, if_neg this]; rfl
  have hm15 : 1 ≤ m ∧ m ≤ 5 := by simpa using h2
  have hb := okC_bounds h1
  have hres : pofD r f m = match findN r f m.toNat with
    | some (n, j, s) => .tup [.v (.string (word n j)), .v (.int .i64 s), .v (.int .i64 0)]
    | none => .tup [.v (.string ⟨#[]⟩), .v (.int .i64 0), .v (.int .i64 6)] := by unfold pofD; rw [h1, if_pos rfl, if_pos hm15] <;> rfl
  rw [hres]
  obtain ⟨M, rfl⟩ := eq_toNat (x := m) (by omega)
  rw [Int.toNat_natCast]
  conv => whnf
  repeat (first | (refine go_C25 ?_; conv => whnf) | (refine lk_C25 ?_; conv => whnf))
  refine loop_rule (α := Nat) (fun q => [(2, .v (.int .i64 M)), (3, .ptr (3, 0, 0) 0), (4, .ptr (4, 0, 0) 0), (9, .v (.int .i64 ((q + 1 : Nat) : Int)))]) (fun q => [((3, 0, 0), roofD r), ((4, 0, 0), row8D f)]) (fun q => q ≤ M ∧ ∀ k, k < q → findJ r f (k + 1) = none) (fun q => M - q) (0) ?_ (sim_of (rn := [((3, 0, 0), (3, 0, 0)), ((4, 0, 0), (4, 0, 0))]) rfl ?_ ?_) ?_
  · exact ⟨Nat.zero_le _, by omega⟩
  · exact hold_C25
  · ((repeat' (first | exact trivial | apply And.intro)) <;> ((first | refine ⟨_, _, rfl, rfl, ?_⟩ ); rfl))
  rintro q ⟨hq, hno⟩
  conv => whnf
  repeat (first | (refine go_C25 ?_; conv => whnf) | (refine lk_C25 ?_; conv => whnf))
  cases h3 : decide (((q + 1 : Nat) : Int) ≤ (M : Int))
  · have hqM : q = M := by simp at h3; omega
    subst hqM
    have : findN r f q = none := findSome_none fun j hj => by rw [hno j hj]; rfl
    rw [this]
    conv => whnf
    repeat (first | (refine go_C25 ?_; conv => whnf) | (refine lk_C25 ?_; conv => whnf))
    first | refine ⟨rfl, _, rfl, ?_⟩ | refine ⟨_, rfl, ?_⟩
    rfl
  have hqM : q < M := by simp at h3; omega
  have hpow : 2 ^ (q + 1) ≤ 32 := by
    have : 2 ^ (q + 1) ≤ 2 ^ 5 := Nat.pow_le_pow_right (by omega) (by omega)
    omega
  conv => whnf
  repeat (first | (refine go_C25 ?_; conv => whnf) | (refine lk_C25 ?_; conv => whnf))
  refine loop_rule (α := Nat) (fun j => [(2, .v (.int .i64 M)), (3, .ptr (3, 0, 0) 0), (4, .ptr (4, 0, 0) 0), (9, .v (.int .i64 ((q + 1 : Nat) : Int))), (10, .v (.int .i64 j))]) (fun j => [((3, 0, 0), roofD r), ((4, 0, 0), row8D f)]) (fun j => j ≤ 2 ^ (q + 1) ∧ ∀ k, k < j → findS r f (q + 1) k = none) (fun j => 2 ^ (q + 1) - j) (0) ?_ (sim_of (rn := [((3, 0, 0), (3, 0, 0)), ((4, 0, 0), (4, 0, 0))]) rfl ?_ ?_) ?_
  · exact ⟨Nat.zero_le _, by omega⟩
  · exact hold_C25
  · ((repeat' (first | exact trivial | apply And.intro)) <;> ((first | refine ⟨_, _, rfl, rfl, ?_⟩ ); rfl))
  rintro j ⟨hj, hnoj⟩
  conv => whnf
  repeat (first | (refine go_C25 ?_; conv => whnf) | (refine lk_C25 ?_; conv => whnf))
  rw [shl_pow (n := q + 1) (by omega)]
  cases h4 : decide ((j : Int) < ((2 ^ (q + 1) : Nat) : Int))
  · have hjn : j = 2 ^ (q + 1) := by simp only [decide_eq_false_iff_not] at h4; omega
    have hJ : findJ r f (q + 1) = none := findSome_none fun k hk => by rw [hnoj k (by omega)]; rfl
    have hno' := below_succ (p := fun k => findJ r f (k + 1) = none) hno hJ
    conv => whnf
    repeat (first | (refine go_C25 ?_; conv => whnf) | (refine lk_C25 ?_; conv => whnf))
    refine ⟨q + 1, ?_, ?_, sim_of (rn := [((3, 0, 0), (3, 0, 0)), ((4, 0, 0), (4, 0, 0))]) rfl ?_ ?_⟩
    · (dsimp only; omega)
    · exact ⟨by omega, hno'⟩
    · exact hold_C25
    · ((repeat' (first | exact trivial | apply And.intro)) <;> ((first | refine ⟨_, _, rfl, rfl, ?_⟩ ); rfl))
  have hjn : j < 2 ^ (q + 1) := by simp only [decide_eq_true_eq] at h4; omega
  have ek : IntKind.i64.wrap (((q + 1 : Nat) : Int) - 1) = (q : Int) := by rw [w64 (by omega) (by omega)]; omega
  conv => whnf
  repeat (first | (refine go_C25 ?_; conv => whnf) | (refine lk_C25 ?_; conv => whnf))
  rw [ek]
  have hj0 : j / 2 ^ (q + 1) = 0 := Nat.div_eq_of_lt hjn
  refine loop_rule (α := Nat) (fun t => [(2, .v (.int .i64 M)), (3, .ptr (3, 0, 0) 0), (4, .ptr (4, 0, 0) 0), (9, .v (.int .i64 ((q + 1 : Nat) : Int))), (10, .v (.int .i64 j)), (11, .v (.string (word t (j / 2 ^ (q + 1 - t))))), (12, .v (.int .i64 ((q : Int) - t)))]) (fun t => [((3, 0, 0), roofD r), ((4, 0, 0), row8D f)]) (fun t => t ≤ q + 1) (fun t => q + 1 - t) (0) ?_ (sim_of (rn := [((3, 0, 0), (3, 0, 0)), ((4, 0, 0), (4, 0, 0))]) rfl ?_ ?_) ?_
  · exact okt_C25
  · exact hold_C25
  · ((repeat' (first | exact trivial | apply And.intro)) <;> ((first | refine ⟨_, _, rfl, rfl, ?_⟩ ); rfl))
  intro t ht
  conv => whnf
  repeat (first | (refine go_C25 ?_; conv => whnf) | (refine lk_C25 ?_; conv => whnf))
  cases h7 : decide ((q : Int) - t ≥ 0)
  case true =>
    have htq : t ≤ q := by simp at h7; omega
    have hz := word_size t (j / 2 ^ (q + 1 - t))
    rw [show (q : Int) - (t : Int) = ((q - t : Nat) : Int) by omega]
    conv => whnf
    refine And.intro (by rw [wu64 (by omega) (by omega)]; omega) ?_
    conv => whnf
    refine And.intro (by decide) ?_
    conv => whnf
    rw [shr_bit (k := q - t) (by omega)]
    refine And.intro (by rw [wu64 (by omega) (by omega)]; omega) ?_
    conv => whnf
    refine And.intro (by decide) ?_
    conv => whnf
    rw [shr_bit (k := q - t) (by omega)]
    have hx : j / 2 ^ (q - t) % 2 < 2 := Nat.mod_lt _ (by omega)
    generalize hxe : j / 2 ^ (q - t) % 2 = x at *
    rw [show IntKind.i64.wrap ((x : Int) + 1) = ((x + 1 : Nat) : Int) by rw [w64 (by omega) (by omega)]; omega]
    refine And.intro ⟨by simp, by simp; omega, by show ((x + 1 : Nat) : Int) ≤ 2; omega⟩ ?_
    conv => whnf
    have hlet : brB.extract (x : Int).toNat (((x + 1 : Nat) : Int)).toNat = if x % 2 = 1 then letR else letB := br_letter hx
    have hls : (if x % 2 = 1 then letR else letB).size = 1 := by split <;> rfl
    have hw : word t (j / 2 ^ (q + 1 - t)) ++ (if x % 2 = 1 then letR else letB) = word (t + 1) (j / 2 ^ (q + 1 - (t + 1))) := by
      rw [← word_step (n := q + 1) (by omega), ← hxe]; rfl
    refine And.intro (strLe (by
      show (word t (j / 2 ^ (q + 1 - t))).size + (brB.extract (x : Int).toNat (((x + 1 : Nat) : Int)).toNat).size ≤ _
      rw [hlet, hls]; omega)) ?_
    conv => whnf
    repeat (first | (refine go_C25 ?_; conv => whnf) | (refine lk_C25 ?_; conv => whnf))
    refine ⟨t + 1, ?_, ?_, sim_of (rn := [((3, 0, 0), (3, 0, 0)), ((4, 0, 0), (4, 0, 0))]) rfl ?_ ?_⟩
    · (dsimp only; omega)
    · exact okt_C25
    · ((repeat' (first | exact trivial | apply And.intro)) <;> (first | rfl | (exact vstrS (hw.symm.trans (by rw [← hlet]; rfl))) | exact leaf_C25))
    · ((repeat' (first | exact trivial | apply And.intro)) <;> ((first | refine ⟨_, _, rfl, rfl, ?_⟩ ); rfl))
  have htq : t = q + 1 := by simp at h7; omega
  subst htq
  rw [Nat.sub_self, Nat.pow_zero, Nat.div_one]
  conv => whnf
  repeat (first | (refine go_C25 ?_; conv => whnf) | (refine lk_C25 ?_; conv => whnf))
  refine loop_rule (α := Nat) (fun s => [(2, .v (.int .i64 M)), (3, .ptr (3, 0, 0) 0), (4, .ptr (4, 0, 0) 0), (9, .v (.int .i64 ((q + 1 : Nat) : Int))), (10, .v (.int .i64 j)), (11, .v (.string (word (q + 1) j))), (13, .v (.int .i64 s))]) (fun s => [((3, 0, 0), roofD r), ((4, 0, 0), row8D f)]) (fun s => s ≤ q + 1 ∧ ∀ k, k < s → isPat r f (q + 1) j k = false) (fun s => q + 1 - s) (0) ?_ (sim_of (rn := [((3, 0, 0), (3, 0, 0)), ((4, 0, 0), (4, 0, 0))]) rfl ?_ ?_) ?_
  · exact ⟨Nat.zero_le _, by omega⟩
  · exact hold_C25
  · ((repeat' (first | exact trivial | apply And.intro)) <;> ((first | refine ⟨_, _, rfl, rfl, ?_⟩ ); rfl))
  rintro s ⟨hs, hnos⟩
  conv => whnf
  repeat (first | (refine go_C25 ?_; conv => whnf) | (refine lk_C25 ?_; conv => whnf))
  cases h5 : decide ((s : Int) < ((q + 1 : Nat) : Int))
  · have hsq : s = q + 1 := by simp only [decide_eq_false_iff_not] at h5; omega
    have hS : findS r f (q + 1) j = none := find_none fun k hk => hnos k (by omega)
    have hnoj' := below_succ (p := fun k => findS r f (q + 1) k = none) hnoj hS
    conv => whnf
    repeat (first | (refine go_C25 ?_; conv => whnf) | (refine lk_C25 ?_; conv => whnf))
    refine ⟨j + 1, ?_, ?_, sim_of (rn := [((3, 0, 0), (3, 0, 0)), ((4, 0, 0), (4, 0, 0))]) rfl ?_ ?_⟩
    · (dsimp only; omega)
    · exact ⟨by omega, hnoj'⟩
    · exact hold_C25
    · ((repeat' (first | exact trivial | apply And.intro)) <;> ((first | refine ⟨_, _, rfl, rfl, ?_⟩ ); rfl))
  have hsq : s < q + 1 := by simp only [decide_eq_true_eq] at h5; omega
  conv => whnf
  repeat (first | (refine go_C25 ?_; conv => whnf) | (refine lk_C25 ?_; conv => whnf))
  first | refine ⟨_, _, rfl, sc_C25 (l07Make_sat r hr hb (word (q + 1) j) (by simp; omega) s (by omega)), ?_⟩ | refine .inl ⟨_, _, rfl, sc_C25 (l07Make_sat r hr hb (word (q + 1) j) (by simp; omega) s (by omega)), ?_⟩
  conv => whnf
  repeat (first | (refine go_C25 ?_; conv => whnf) | (refine lk_C25 ?_; conv => whnf))
  refine ⟨_, eqAgg_eq (f := patR r (word (q + 1) j) s) (g := f) (by rw [splice_all (by simp), take_drop0 (by simp)]) (take_drop0 (by simp)) (acc_in _ _ _) hf, ?_⟩
  conv => whnf
  rw [show eq8 (patR r (word (q + 1) j) s) f = isPat r f (q + 1) j s from rfl]
  cases h6 : isPat r f (q + 1) j s
  · have hnos' := below_succ (p := fun k => isPat r f (q + 1) j k = false) hnos h6
    conv => whnf
    repeat (first | (refine go_C25 ?_; conv => whnf) | (refine lk_C25 ?_; conv => whnf))
    refine ⟨s + 1, ?_, ?_, sim_of (rn := [((3, 0, 0), (3, 0, 0)), ((4, 0, 0), (4, 0, 0))]) rfl ?_ ?_⟩
    · (dsimp only; omega)
    · exact ⟨by omega, hnos'⟩
    · exact hold_C25
    · ((repeat' (first | exact trivial | apply And.intro)) <;> ((first | refine ⟨_, _, rfl, rfl, ?_⟩ ); rfl))
  have hS : findS r f (q + 1) j = some s := find_some hsq h6 hnos
  have hJ : findJ r f (q + 1) = some (j, s) := findSome_some (s := j) hjn (by rw [hS]; rfl) fun k hk => by rw [hnoj k hk]; rfl
  have hN : findN r f M = some (q + 1, j, s) := findSome_some (s := q) hqM (by rw [hJ]; rfl) fun k hk => by rw [hno k hk]; rfl
  rw [hN]
  conv => whnf
  repeat (first | (refine go_C25 ?_; conv => whnf) | (refine lk_C25 ?_; conv => whnf))
  first | refine ⟨rfl, _, rfl, ?_⟩ | refine ⟨_, rfl, ?_⟩
  rfl
end Go.Proofs.YtdbhfobnmlogeaaDoor
/- Contracts: something of each place; what has to be replaced, both sides, and the law. -/
set_option linter.unusedVariables false
set_option linter.unusedSimpArgs false
namespace Go.V
def newB (life nx y b : Int) : Int := if nx - b > life then y else b
/-- The first k tiles seen to. -/
def bornS (life nx y : Int) (born : List Int) (k : Nat) : List Int := (born.take k).map (newB life nx y) ++ born.drop k
def cntS (life nx : Int) (born : List Int) (k : Nat) : Nat := (born.take k).countP fun b => decide (nx - b > life)
def nxAt (years : Int) (vs : List Int) (i : Nat) : Int := if i + 1 < vs.length then ix vs (i + 1) else years
def bornI (life years : Int) (vs b0 : List Int) : Nat → List Int
  | 0 => b0
  | i + 1 => bornS life (nxAt years vs i) (ix vs i) (bornI life years vs b0 i) b0.length
def outI (life years : Int) (vs b0 : List Int) : Nat → List Int
  | 0 => []
  | i + 1 => outI life years vs b0 i ++ [((cntS life (nxAt years vs i) (bornI life years vs b0 i) b0.length : Nat) : Int)]
@[simp] theorem bornS_len (life nx y : Int) (born : List Int) (k : Nat) : (bornS life nx y born k).length = born.length := by
  simp [bornS]
  omega
@[simp] theorem bornI_len (life years : Int) (vs b0 : List Int) : ∀ i, (bornI life years vs b0 i).length = b0.length
  | 0 => rfl
  | i + 1 => by simp only [bornI, bornS_len]; exact bornI_len life years vs b0 i
@[simp] theorem outI_len (life years : Int) (vs b0 : List Int) : ∀ i, (outI life years vs b0 i).length = i
  | 0 => rfl
  | i + 1 => by simp only [outI, List.length_append, outI_len life years vs b0 i]; rfl
end Go.V
namespace Go.Proofs.YtdbhfobnmlogeaaDoor
open Go.V
end Go.Proofs.YtdbhfobnmlogeaaDoor
