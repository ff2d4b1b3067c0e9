/- Contracts: lists of places by a function that carries values with it; marks in lists of places; tiles that are too old. -/
import Derived.Test.YtndlknhakdadjaaC18
set_option linter.unusedVariables false
set_option linter.unusedSimpArgs false
namespace Go.V
/-- Cells with numbers one after another. -/
def marksC (k : Int) (n : Nat) : List Value := tab n fun j => .int .i8 (IntKind.i8.wrap (k + j))
@[simp] theorem marksC_len (k : Int) (n : Nat) : (marksC k n).length = n := by simp [marksC]
theorem set_next {xs ys : List Value} {v : Value} {n : Nat} (hx : xs.length = n) (h : n < ys.length) : (xs ++ ys.drop n).set n v = (xs ++ [v]) ++ ys.drop (n + 1) := by
  subst hx
  rw [List.set_append_right _ _ (Nat.le_refl _), Nat.sub_self, List.drop_eq_getElem_cons h]
  simp only [List.set_cons_zero, List.append_assoc, List.singleton_append]
theorem marksC_next (k : Int) (n : Nat) : marksC k n ++ [.int .i8 (IntKind.i8.wrap (k + n))] = marksC k (n + 1) := by
  unfold marksC
  rw [tab_def, tab_def, List.range_succ, List.map_append]
  rfl
/-- A list of cells of which the first ones are marked. -/
def markedC (k : Int) (n : Nat) (ys : List Value) : List Value := marksC k n ++ ys.drop n
theorem markedC_set {k : Int} {n : Nat} {ys : List Value} (h : n < ys.length) : (markedC k n ys).set n (.int .i8 (IntKind.i8.wrap (k + n))) = markedC k (n + 1) ys := by
  unfold markedC
  rw [set_next (by simp) h, marksC_next]
theorem markedC_len {k : Int} {n : Nat} {ys : List Value} (h : n ≤ ys.length) : (markedC k n ys).length = ys.length := by
  simp [markedC]; omega
theorem markedC_zero (k : Int) (ys : List Value) : markedC k 0 ys = ys := by simp [markedC, marksC, tab_def]
theorem markedC_all (k : Int) (ys : List Value) : markedC k ys.length ys = marksC k ys.length := by simp [markedC]
end Go.V
namespace Go.Proofs.Ytndlknhakdadjaa
open Go.V
theorem placesG_sat {g : Nat} {caps : List D} {p : Nat → Nat → Bool} (r : Roof) (hr : r.In) (hb : (1 ≤ r.w ∧ r.w ≤ 8) ∧ (1 ≤ r.h ∧ r.h ≤ 8) ∧ r.s ≤ 1) (hc : CapOk caps) (hg : ∀ c k : Nat, c < 8 → k < 8 → Sat Try.prog g (placeD c k :: caps) (.v (.bool (p c k)))) :
    Sat Try.prog 72 [roofD r, .fn (.func g) [] caps] (placesD true (allP r p)) := by
  refine sat_of_wp hMix tOk Try.func72 rfl rfl Try.ntmps72 rfl rfl Try.results72 (by kernel_rfl) ?_
  conv => whnf
  repeat (first | (refine And.intro (by first  | exact rfl | decide | omega | (simp [splice]; done) | (constructor <;> omega) | (simp [splice]; omega)) ?_; conv => whnf) | (refine optK_of (gridN (by omega) (by omega)) ?_; conv => whnf) | (refine optK_of (rowN (by omega)) ?_; conv => whnf) | (refine optK_of (roofN (by omega) (by omega)) ?_; conv => whnf) | (refine optK_of (placeA (by omega)) ?_; conv => whnf) | (refine optK_of (placeB (by omega)) ?_; conv => whnf) | (refine optK_of (placeA' (by omega)) ?_; conv => whnf) | (refine optK_of (placeB' (by omega)) ?_; conv => whnf))
  refine loop_rule (α := Nat) (fun c => [(1, .fn (.func g) [] caps), (2, .ptr (2, 0, 0) 0), (5, .slc true 2 (28, 0, 0) 0 (pick p r.w.toNat c 0).length), (9, .v (.int .i8 r.h)), (10, .v (.int .i8 c))]) (fun c => [((2, 0, 0), roofD r), ((28, 0, 0), .v (.agg ⟨placesC (pick p r.w.toNat c 0)⟩))]) (fun c => c ≤ r.h.toNat) (fun c => 8 - c) (0) ?_ (sim_of (rn := [((2, 0, 0), (2, 0, 0)), ((28, 0, 0), nilId)]) rfl ?_ ?_) ?_
  · first | omega | (dsimp only; omega) | ((repeat' apply And.intro) <;> omega) | (dsimp only; (repeat' apply And.intro) <;> omega) | trivial
  · ((repeat' (first | exact trivial | apply And.intro)) <;> (first | rfl | exact succ8 (by omega) | exact succ64 (by omega) | exact CapOk.fn (by assumption) _ _ | exact vintS (by omega) | exact vintS (by rw [w64 (by omega) (by omega)]; omega) | exact vintS (by rw [w8 (by omega) (by omega)]; omega) | exact vslcS (by omega) | exact vslcS (by simp)))
  · ((repeat' (first | exact trivial | apply And.intro)) <;> (refine ⟨_, _, rfl, rfl, ?_⟩; first | rfl | (rfl)))
  intro c hc'
  conv => whnf
  repeat (first | (refine And.intro (by first  | exact rfl | decide | omega | (simp [splice]; done) | (constructor <;> omega) | (simp [splice]; omega)) ?_; conv => whnf) | (refine optK_of (gridN (by omega) (by omega)) ?_; conv => whnf) | (refine optK_of (rowN (by omega)) ?_; conv => whnf) | (refine optK_of (roofN (by omega) (by omega)) ?_; conv => whnf) | (refine optK_of (placeA (by omega)) ?_; conv => whnf) | (refine optK_of (placeB (by omega)) ?_; conv => whnf) | (refine optK_of (placeA' (by omega)) ?_; conv => whnf) | (refine optK_of (placeB' (by omega)) ?_; conv => whnf))
  cases h4 : decide ((c : Int) < r.h)
  · have h8 : c = r.h.toNat := by simp at h4; omega
    subst h8
    exact ⟨rfl, _, rfl, rfl⟩
  have hch : (c : Int) < r.h := by simpa using h4
  conv => whnf
  repeat (first | (refine And.intro (by first  | exact rfl | decide | omega | (simp [splice]; done) | (constructor <;> omega) | (simp [splice]; omega)) ?_; conv => whnf) | (refine optK_of (gridN (by omega) (by omega)) ?_; conv => whnf) | (refine optK_of (rowN (by omega)) ?_; conv => whnf) | (refine optK_of (roofN (by omega) (by omega)) ?_; conv => whnf) | (refine optK_of (placeA (by omega)) ?_; conv => whnf) | (refine optK_of (placeB (by omega)) ?_; conv => whnf) | (refine optK_of (placeA' (by omega)) ?_; conv => whnf) | (refine optK_of (placeB' (by omega)) ?_; conv => whnf))
  refine loop_rule (α := Nat) (fun k => [(1, .fn (.func g) [] caps), (2, .ptr (2, 0, 0) 0), (5, .slc true 2 (28, 0, 0) 0 (pick p r.w.toNat c k).length), (6, .v (.int .i8 c)), (9, .v (.int .i8 r.h)), (10, .v (.int .i8 c)), (14, .v (.int .i8 r.w)), (15, .v (.int .i8 k))]) (fun k => [((2, 0, 0), roofD r), ((28, 0, 0), .v (.agg ⟨placesC (pick p r.w.toNat c k)⟩))]) (fun k => k ≤ r.w.toNat) (fun k => 8 - k) (0) ?_ (sim_of (rn := [((2, 0, 0), (2, 0, 0)), ((28, 0, 0), (28, 0, 0))]) rfl ?_ ?_) ?_
  · first | omega | (dsimp only; omega) | ((repeat' apply And.intro) <;> omega) | (dsimp only; (repeat' apply And.intro) <;> omega) | trivial
  · ((repeat' (first | exact trivial | apply And.intro)) <;> (first | rfl | exact succ8 (by omega) | exact succ64 (by omega) | exact CapOk.fn (by assumption) _ _ | exact vintS (by omega) | exact vintS (by rw [w64 (by omega) (by omega)]; omega) | exact vintS (by rw [w8 (by omega) (by omega)]; omega) | exact vslcS (by omega) | exact vslcS (by simp)))
  · ((repeat' (first | exact trivial | apply And.intro)) <;> (refine ⟨_, _, rfl, rfl, ?_⟩; first | rfl | (rfl)))
  intro k hk
  conv => whnf
  repeat (first | (refine And.intro (by first  | exact rfl | decide | omega | (simp [splice]; done) | (constructor <;> omega) | (simp [splice]; omega)) ?_; conv => whnf) | (refine optK_of (gridN (by omega) (by omega)) ?_; conv => whnf) | (refine optK_of (rowN (by omega)) ?_; conv => whnf) | (refine optK_of (roofN (by omega) (by omega)) ?_; conv => whnf) | (refine optK_of (placeA (by omega)) ?_; conv => whnf) | (refine optK_of (placeB (by omega)) ?_; conv => whnf) | (refine optK_of (placeA' (by omega)) ?_; conv => whnf) | (refine optK_of (placeB' (by omega)) ?_; conv => whnf))
  cases h5 : decide ((k : Int) < r.w)
  · have hkw : k = r.w.toNat := by simp at h5; omega
    subst hkw
    conv => whnf
    repeat (first | (refine And.intro (by first  | exact rfl | decide | omega | (simp [splice]; done) | (constructor <;> omega) | (simp [splice]; omega)) ?_; conv => whnf) | (refine optK_of (gridN (by omega) (by omega)) ?_; conv => whnf) | (refine optK_of (rowN (by omega)) ?_; conv => whnf) | (refine optK_of (roofN (by omega) (by omega)) ?_; conv => whnf) | (refine optK_of (placeA (by omega)) ?_; conv => whnf) | (refine optK_of (placeB (by omega)) ?_; conv => whnf) | (refine optK_of (placeA' (by omega)) ?_; conv => whnf) | (refine optK_of (placeB' (by omega)) ?_; conv => whnf))
    rw [← pick_row]
    refine ⟨c + 1, ?_, ?_, sim_of (rn := [((2, 0, 0), (2, 0, 0)), ((28, 0, 0), (28, 0, 0))]) rfl ?_ ?_⟩
    · (dsimp only; omega)
    · first | omega | (dsimp only; omega) | ((repeat' apply And.intro) <;> omega) | (dsimp only; (repeat' apply And.intro) <;> omega) | trivial
    · ((repeat' (first | exact trivial | apply And.intro)) <;> (first | rfl | exact succ8 (by omega) | exact succ64 (by omega) | exact CapOk.fn (by assumption) _ _ | exact vintS (by omega) | exact vintS (by rw [w64 (by omega) (by omega)]; omega) | exact vintS (by rw [w8 (by omega) (by omega)]; omega) | exact vslcS (by omega) | exact vslcS (by simp)))
    · ((repeat' (first | exact trivial | apply And.intro)) <;> (refine ⟨_, _, rfl, rfl, ?_⟩; first | rfl | (rfl)))
  have hkw : (k : Int) < r.w := by simpa using h5
  conv => whnf
  repeat (first | (refine And.intro (by first  | exact rfl | decide | omega | (simp [splice]; done) | (constructor <;> omega) | (simp [splice]; omega)) ?_; conv => whnf) | (refine optK_of (gridN (by omega) (by omega)) ?_; conv => whnf) | (refine optK_of (rowN (by omega)) ?_; conv => whnf) | (refine optK_of (roofN (by omega) (by omega)) ?_; conv => whnf) | (refine optK_of (placeA (by omega)) ?_; conv => whnf) | (refine optK_of (placeB (by omega)) ?_; conv => whnf) | (refine optK_of (placeA' (by omega)) ?_; conv => whnf) | (refine optK_of (placeB' (by omega)) ?_; conv => whnf))
  refine .inl ⟨_, _, hc.one rfl, hg c k (by omega) (by omega), ?_⟩
  have hl := pick_len p (w := r.w.toNat) (c := c) (k := k) (by omega) (by omega) (by omega)
  conv => whnf
  cases hp : p c k
  · conv => whnf
    repeat (first | (refine And.intro (by first  | exact rfl | decide | omega | (simp [splice]; done) | (constructor <;> omega) | (simp [splice]; omega)) ?_; conv => whnf) | (refine optK_of (gridN (by omega) (by omega)) ?_; conv => whnf) | (refine optK_of (rowN (by omega)) ?_; conv => whnf) | (refine optK_of (roofN (by omega) (by omega)) ?_; conv => whnf) | (refine optK_of (placeA (by omega)) ?_; conv => whnf) | (refine optK_of (placeB (by omega)) ?_; conv => whnf) | (refine optK_of (placeA' (by omega)) ?_; conv => whnf) | (refine optK_of (placeB' (by omega)) ?_; conv => whnf))
    rw [← pick_no hp]
    refine ⟨k + 1, ?_, ?_, sim_of (rn := [((2, 0, 0), (2, 0, 0)), ((28, 0, 0), (28, 0, 0))]) rfl ?_ ?_⟩
    · (dsimp only; omega)
    · first | omega | (dsimp only; omega) | ((repeat' apply And.intro) <;> omega) | (dsimp only; (repeat' apply And.intro) <;> omega) | trivial
    · ((repeat' (first | exact trivial | apply And.intro)) <;> (first | rfl | exact succ8 (by omega) | exact succ64 (by omega) | exact CapOk.fn (by assumption) _ _ | exact vintS (by omega) | exact vintS (by rw [w64 (by omega) (by omega)]; omega) | exact vintS (by rw [w8 (by omega) (by omega)]; omega) | exact vslcS (by omega) | exact vslcS (by simp)))
    · ((repeat' (first | exact trivial | apply And.intro)) <;> (refine ⟨_, _, rfl, rfl, ?_⟩; first | rfl | (rfl)))
  · conv => whnf
    refine ⟨⟨by show (_ + 1) * 2 ≤ 140737488355328; omega, by omega⟩, ?_⟩
    conv => whnf
    have e1 : (pick p r.w.toNat c k).length + 1 = (pick p r.w.toNat c (k + 1)).length := by rw [pick_yes hp, List.length_append]; rfl
    have e2 : placesC (pick p r.w.toNat c k) ++ [.int .i8 c, .int .i8 k] = placesC (pick p r.w.toNat c (k + 1)) := by rw [pick_yes hp, placesC_append]; rfl
    refine ⟨k + 1, by dsimp only; omega, by dsimp only; omega, sim_of (rn := [((2, 0, 0), (2, 0, 0)), ((28, 0, 0), (28, 1, 0))]) rfl ⟨hc.fn _ _, rfl, ?_, rfl, rfl, rfl, rfl, succ8 (by omega), trivial⟩ ⟨⟨_, _, rfl, rfl, rfl⟩, ⟨_, _, rfl, rfl, ?_⟩, trivial⟩⟩
    · rw [← e1]; rfl
    · rw [← e2]; rfl
end Go.Proofs.Ytndlknhakdadjaa
