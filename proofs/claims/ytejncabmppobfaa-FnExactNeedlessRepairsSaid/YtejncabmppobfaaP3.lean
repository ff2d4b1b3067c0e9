import Derived.Test.YtejncabmppobfaaP2
set_option linter.unusedVariables false
set_option linter.unusedSimpArgs false
/- Contracts: roofs mended, what drips behind repairs, lists by sets; both sides. -/
set_option linter.unusedVariables false
set_option linter.unusedSimpArgs false
namespace Go.V
/- Words for the walks of this text: their default arguments are tried where they are used. -/
theorem go_E34 {P Q : Prop} (k : Q) (h : P := by first | exact Nat.le_of_ble_eq_true rfl | exact rfl | decide | omega | (simp [splice]; done) | (constructor <;> omega) | (simp [splice]; omega)) : P ∧ Q := ⟨h, k⟩
theorem lk_E34 {α : Type} {o : Option α} {K : α → Prop} {x : α} (k : K x) (h : o = some x := by first | exact raiA (by omega) | exact raiA' (by omega) | exact roofN (by omega) (by omega) | exact gridN (by omega) (by omega) | exact intA (by omega) | exact intA' (by omega) | exact placeA (by omega) | exact placeB (by omega) | exact placeA' (by omega) | exact placeB' (by omega)) : optK o K := optK_of h k
theorem sc_E34 {P : Program} {g : FuncId} {args args' : List D} {res : D} (h : Sat P g args res) (e : args' = args := by repeat (first | rfl | exact vfull (by first | (simp [splice]; done) | (simp [splice]; omega)) | exact rfull (by first | (simp [splice]; done) | (simp [splice]; omega)) | exact vplace (by simp; done) (by omega) | exact vrow (by simp; done) (by omega) | exact vtiles (by simp) | exact vsplice (by simp) (by simp) | refine ceq ?_ ?_ | refine Eq.trans (vsplice (by first | (simp; done) | (simp; omega)) (by first | (simp; done) | (simp; omega))) ?_)) : Sat P g args' res := Sat.of_eq h e
theorem hold_E34 {P : Prop} (h : P := by (repeat' (first | exact trivial | apply And.intro)) <;> (first | rfl | exact succ8 (by omega) | exact succ64 (by omega) | exact CapOk.fn (by assumption) _ _ | exact vintS (by omega) | exact vintS (by rw [w64 (by omega) (by omega)]; omega) | exact vintS (by rw [w8 (by omega) (by omega)]; omega) | exact vslcS (by omega) | exact vslcS (by simp))) : P := h
theorem okt_E34 {P : Prop} (h : P := by first | omega | (dsimp only; omega) | ((repeat' apply And.intro) <;> omega) | (dsimp only; (repeat' apply And.intro) <;> omega) | trivial) : P := h
end Go.V
namespace Go.V
theorem croof {zs : List Value} {r : Roof} (hz : zs.length = 67) : some (D.v (.agg ⟨splice zs 0 (List.take 67 (List.drop 0 (roofC r)))⟩)) = some (roofD r) := by
  rw [take_drop0 (xs := roofC r) (by simp), splice_all (by rw [hz]; simp)]; rfl
end Go.V
namespace Go.Proofs.Ytejncabmppobfaa
open Go.V
theorem mended_sat (r : Roof) (hr : r.In) (l : List Pl) (hl : l.length ≤ 1048576) (hin : AllIn l) (m : Bool) : Sat Try.prog 81 [roofD r, placesD m l] (roofD (mnR r l l.length)) := by
  refine sat_of_wp hMix tOk Try.func81 rfl rfl Try.ntmps81 rfl rfl Try.results81 (by kernel_rfl) ?_
  conv => whnf
  repeat (first | (refine go_E34 ?_; conv => whnf) | (refine lk_E34 ?_; conv => whnf))
  refine loop_rule (α := Nat) (fun i => [(2, .ptr (2, 0, 0) 0), (4, .ptr (4, 0, 0) 0), (7, placesD m l), (8, .v (.int .i64 l.length)), (9, .v (.int .i64 i))]) (fun i => [((2, 0, 0), roofD (mnR r l i)), ((4, 0, 0), cont (.v ti34.zero))]) (fun i => i ≤ l.length) (fun i => l.length - i) (0) ?_ (sim_of (rn := [((2, 0, 0), (2, 0, 0)), ((4, 0, 0), (4, 0, 0))]) rfl ?_ ?_) ?_
  · exact okt_E34
  · exact hold_E34
  · ((repeat' (first | exact trivial | apply And.intro)) <;> ((first | refine ⟨_, _, rfl, rfl, ?_⟩ ); rfl))
  intro i hi
  conv => whnf
  repeat (first | (refine go_E34 ?_; conv => whnf) | (refine lk_E34 ?_; conv => whnf))
  cases h : decide ((i : Int) < (l.length : Int))
  · have hn : i = l.length := by simp at h; omega
    subst hn
    conv => whnf
    repeat (first | (refine go_E34 ?_; conv => whnf) | (refine lk_E34 ?_; conv => whnf))
    first | refine ⟨rfl, _, rfl, ?_⟩ | refine ⟨_, rfl, ?_⟩
    skip
    have e : ∀ zs : List Value, zs.length = 67 → List.take 67 (List.drop 0 (splice zs 0 (List.take 67 (List.drop 0 (roofC (mnR r l l.length)))))) = roofC (mnR r l l.length) := fun zs hz => by
      rw [take_drop0 (xs := roofC (mnR r l l.length)) (by simp), splice_all (by rw [hz]; simp), take_drop0 (by simp)]
    exact congrArg (fun l => D.v (.agg ⟨l⟩)) (e _ rfl).symm
  have hlt : i < l.length := by simpa using h
  have hq := hin i hlt
  conv => whnf
  repeat (first | (refine go_E34 ?_; conv => whnf) | (refine lk_E34 ?_; conv => whnf))
  first | refine ⟨_, _, rfl, sc_E34 (with_sat (mnR r l i) (nthP l i).1 (nthP l i).2 hq.1 hq.2 0 (by omega)), ?_⟩ | refine .inl ⟨_, _, rfl, sc_E34 (with_sat (mnR r l i) (nthP l i).1 (nthP l i).2 hq.1 hq.2 0 (by omega)), ?_⟩
  conv => whnf
  repeat (first | (refine go_E34 ?_; conv => whnf) | (refine lk_E34 ?_; conv => whnf))
  refine ⟨i + 1, ?_, ?_, sim_of (rn := [((2, 0, 0), (2, 0, 0)), ((4, 0, 0), (4, 0, 0))]) rfl ?_ ?_⟩
  · (dsimp only; omega)
  · exact okt_E34
  · exact hold_E34
  · ((repeat' (first | exact trivial | apply And.intro)) <;> ((first | refine ⟨_, _, rfl, rfl, ?_⟩ ); first | rfl | (first | exact csplice (by simp))))
theorem after_sat (r : Roof) (hr : r.In) (hb : Rb r) (w : Nat → Int) (hw : W1 w) (l : List Pl) (hl : l.length ≤ 1048576) (hin : AllIn l) (m : Bool) : Sat Try.prog 41 [roofD r, raiD w, placesD m l] (.v (.int .i64 (afI r w l))) := by
  refine sat_of_wp hMix tOk Try.func41 rfl rfl Try.ntmps41 rfl rfl Try.results41 (by kernel_rfl) ?_
  conv => whnf
  repeat (first | (refine go_E34 ?_; conv => whnf) | (refine lk_E34 ?_; conv => whnf))
  first | refine ⟨_, _, rfl, sc_E34 (mended_sat r hr l hl hin false), ?_⟩ | refine .inl ⟨_, _, rfl, sc_E34 (mended_sat r hr l hl hin false), ?_⟩
  conv => whnf
  repeat (first | (refine go_E34 ?_; conv => whnf) | (refine lk_E34 ?_; conv => whnf))
  first | refine ⟨_, _, rfl, sc_E34 (dripSum_sat (mnR r l l.length) (mnR_in hr l _) (by unfold Rb; simpa using hb) w hw), ?_⟩ | refine .inl ⟨_, _, rfl, sc_E34 (dripSum_sat (mnR r l l.length) (mnR_in hr l _) (by unfold Rb; simpa using hb) w hw), ?_⟩
  conv => whnf
  repeat (first | (refine go_E34 ?_; conv => whnf) | (refine lk_E34 ?_; conv => whnf))
  first | refine ⟨rfl, _, rfl, ?_⟩ | refine ⟨_, rfl, ?_⟩
  rfl
theorem l03After_sat (r : Roof) (hr : r.In) (hb : Rb r) (w : Nat → Int) (hw : W1 w) (l : List Pl) (hl : l.length ≤ 1048576) (hin : AllIn l) (m : Bool) : Sat Try.prog 35 [.ref false (roofD r) 0, .ref false (raiD w) 0, placesD m l] (.v (.int .i64 (afI r w l))) := by
  refine sat_of_wp hMix tOk Try.func35 rfl rfl Try.ntmps35 rfl rfl Try.results35 (by kernel_rfl) ?_
  conv => whnf
  repeat (first | (refine go_E34 ?_; conv => whnf) | (refine lk_E34 ?_; conv => whnf))
  refine loop_rule (α := Nat) (fun i => [(1, .ref false (raiD w) 0), (2, placesD m l), (7, .ptr (7, 0, 0) 0), (8, .v (.int .i64 i))]) (fun i => [((7, 0, 0), roofD (mnR r l i))]) (fun i => i ≤ l.length) (fun i => l.length - i) (0) ?_ (sim_of (rn := [((7, 0, 0), (7, 0, 0))]) rfl ?_ ?_) ?_
  · exact okt_E34
  · exact hold_E34
  · ((repeat' (first | exact trivial | apply And.intro)) <;> ((first | refine ⟨_, _, rfl, rfl, ?_⟩ ); first | rfl | (exact croof rfl)))
  intro i hi
  conv => whnf
  repeat (first | (refine go_E34 ?_; conv => whnf) | (refine lk_E34 ?_; conv => whnf))
  cases h : decide ((i : Int) < (l.length : Int))
  · have hn : i = l.length := by simp at h; omega
    subst hn
    conv => whnf
    repeat (first | (refine go_E34 ?_; conv => whnf) | (refine lk_E34 ?_; conv => whnf))
    first | refine ⟨_, _, rfl, sc_E34 (l02Sum_sat (mnR r l l.length) (mnR_in hr l _) (by unfold Rb; simpa using hb) w hw), ?_⟩ | refine .inl ⟨_, _, rfl, sc_E34 (l02Sum_sat (mnR r l l.length) (mnR_in hr l _) (by unfold Rb; simpa using hb) w hw), ?_⟩
    conv => whnf
    repeat (first | (refine go_E34 ?_; conv => whnf) | (refine lk_E34 ?_; conv => whnf))
    first | refine ⟨rfl, _, rfl, ?_⟩ | refine ⟨_, rfl, ?_⟩
    rfl
  have hlt : i < l.length := by simpa using h
  have hq := hin i hlt
  have e := roof_set (r := mnR r l i) (c := (nthP l i).1) (k := (nthP l i).2) (o := 0 + 3 + ((nthP l i).1 : Int).toNat * 8 + ((nthP l i).2 : Int).toNat * 1) (x := 0) (by simp) hq.1 hq.2
  conv => whnf
  repeat (first | (refine go_E34 ?_; conv => whnf) | (refine lk_E34 ?_; conv => whnf))
  refine ⟨i + 1, ?_, ?_, sim_of (rn := [((7, 0, 0), (7, 0, 0))]) rfl ?_ ?_⟩
  · (dsimp only; omega)
  · exact okt_E34
  · exact hold_E34
  · ((repeat' (first | exact trivial | apply And.intro)) <;> ((first | refine ⟨_, _, rfl, rfl, ?_⟩ ); first | rfl | (exact cset e)))
theorem l03Wrong_sat (r : Roof) (hr : r.In) (hb : Rb r) : Sat Try.prog 75 [.ref false (roofD r) 0] (placesD true (wrP r)) := by
  have hall : Sat Try.prog 84 [.ref false (roofD r) 0] (placesD true (gridP r.w.toNat r.h.toNat)) := by rw [← allP_true]; exact l01All_sat r hr hb
  have hl := gridP_size hb
  have hps := gridP_in (w := r.w.toNat) (h := r.h.toNat) (by omega) (by omega)
  have hres : wrP r = selP (wrB r) (gridP r.w.toNat r.h.toNat) (gridP r.w.toNat r.h.toNat).length := by rw [selP_all]; exact allP_eq r _
  rw [hres]
  generalize gridP r.w.toNat r.h.toNat = ps at *
  refine sat_of_wp hMix tOk Try.func75 rfl rfl Try.ntmps75 rfl rfl Try.results75 (by kernel_rfl) ?_
  conv => whnf
  repeat (first | (refine go_E34 ?_; conv => whnf) | (refine lk_E34 ?_; conv => whnf))
  first | refine ⟨_, _, rfl, sc_E34 (hall), ?_⟩ | refine .inl ⟨_, _, rfl, sc_E34 (hall), ?_⟩
  conv => whnf
  repeat (first | (refine go_E34 ?_; conv => whnf) | (refine lk_E34 ?_; conv => whnf))
  refine loop_rule (α := Nat) (fun i => [(0, .ref false (roofD r) 0), (3, .slc true 2 (28, 0, 0) 0 (selP (wrB r) ps i).length), (4, .slc true 2 (8, 0, 0) 0 ps.length), (5, .v (.int .i64 i))]) (fun i => [((8, 0, 0), .v (.agg ⟨placesC ps⟩)), ((28, 0, 0), .v (.agg ⟨placesC (selP (wrB r) ps i)⟩))]) (fun i => i ≤ ps.length) (fun i => ps.length - i) (0) ?_ (sim_of (rn := [((8, 0, 0), (8, 0, 0)), ((28, 0, 0), (6, 0, 0))]) rfl ?_ ?_) ?_
  · exact okt_E34
  · exact hold_E34
  · ((repeat' (first | exact trivial | apply And.intro)) <;> ((first | refine ⟨_, _, rfl, rfl, ?_⟩ ); rfl))
  intro i hi
  conv => whnf
  repeat (first | (refine go_E34 ?_; conv => whnf) | (refine lk_E34 ?_; conv => whnf))
  cases h : decide ((i : Int) < (ps.length : Int))
  · have hin : i = ps.length := by simp at h; omega
    subst hin
    conv => whnf
    repeat (first | (refine go_E34 ?_; conv => whnf) | (refine lk_E34 ?_; conv => whnf))
    first | refine ⟨rfl, _, rfl, ?_⟩ | refine ⟨_, rfl, ?_⟩
    rfl
  have hin : i < ps.length := by simpa using h
  have hqi := hps i hin
  have hsl := selP_len (wrB r) ps i
  conv => whnf
  repeat (first | (refine go_E34 ?_; conv => whnf) | (refine lk_E34 ?_; conv => whnf))
  first | refine ⟨_, _, rfl, sc_E34 (l01At_sat r hr (nthP ps i).1 (nthP ps i).2 hqi.1 hqi.2), ?_⟩ | refine .inl ⟨_, _, rfl, sc_E34 (l01At_sat r hr (nthP ps i).1 (nthP ps i).2 hqi.1 hqi.2), ?_⟩
  conv => whnf
  repeat (first | (refine go_E34 ?_; conv => whnf) | (refine lk_E34 ?_; conv => whnf))
  cases hp : (r.t (nthP ps i).1 (nthP ps i).2 != 0)
  · have hw0 : wrB r (nthP ps i).1 (nthP ps i).2 = false := hp
    conv => whnf
    repeat (first | (refine go_E34 ?_; conv => whnf) | (refine lk_E34 ?_; conv => whnf))
    rw [← selP_no hin hw0]
    refine ⟨i + 1, ?_, ?_, sim_of (rn := [((8, 0, 0), (8, 0, 0)), ((28, 0, 0), (28, 0, 0))]) rfl ?_ ?_⟩
    · (dsimp only; omega)
    · exact okt_E34
    · exact hold_E34
    · ((repeat' (first | exact trivial | apply And.intro)) <;> ((first | refine ⟨_, _, rfl, rfl, ?_⟩ ); rfl))
  have hw1 : wrB r (nthP ps i).1 (nthP ps i).2 = true := hp
  have e1 := selP_yes hin hw1
  have e2 : placesC (selP (wrB r) ps i) ++ [.int .i8 (nthP ps i).1, .int .i8 (nthP ps i).2] = placesC (selP (wrB r) ps (i + 1)) := by rw [e1, placesC_append]; rfl
  have e3 : (selP (wrB r) ps i).length + 1 = (selP (wrB r) ps (i + 1)).length := by rw [e1, List.length_append]; rfl
  conv => whnf
  repeat (first | (refine go_E34 ?_; conv => whnf) | (refine lk_E34 ?_; conv => whnf))
  have e0 : List.take ti56.size (List.drop (0 + (i : Int).toNat * ti56.size) ({ toList := placesC ps } : Array Value).toList) = [.int .i8 (nthP ps i).1, .int .i8 (nthP ps i).2] := place_load (by simp) hin
  rw [e0]
  conv => whnf
  repeat (first | (refine go_E34 ?_; conv => whnf) | (refine lk_E34 ?_; conv => whnf))
  refine ⟨i + 1, ?_, ?_, sim_of (rn := [((8, 0, 0), (8, 0, 0)), ((28, 0, 0), (28, 1, 0))]) rfl ?_ ?_⟩
  · (dsimp only; omega)
  · exact okt_E34
  · exact hold_E34
  · ((repeat' (first | exact trivial | apply And.intro)) <;> ((first | refine ⟨_, _, rfl, rfl, ?_⟩ ); first | rfl | (exact cset e2)))
theorem repairCode_sat (r : Roof) (hr : r.In) (w : Nat → Int) (hw : RaiIn w) (b : Bool) : Sat Try.prog 78 [roofD r, raiD w, .v (.bool b)] (.v (.int .i64 (if rnK r w b = 0 ∧ 10 < (wrP r).length then 3 else rnK r w b))) := by
  refine sat_of_wp hMix tOk Try.func78 rfl rfl Try.ntmps78 rfl rfl Try.results78 (by kernel_rfl) ?_
  conv => whnf
  repeat (first | (refine go_E34 ?_; conv => whnf) | (refine lk_E34 ?_; conv => whnf))
  first | refine ⟨_, _, rfl, sc_E34 (rainCode_sat r hr w hw b), ?_⟩ | refine .inl ⟨_, _, rfl, sc_E34 (rainCode_sat r hr w hw b), ?_⟩
  conv => whnf
  repeat (first | (refine go_E34 ?_; conv => whnf) | (refine lk_E34 ?_; conv => whnf))
  cases h : (rnK r w b == 0)
  · have h' : ¬ rnK r w b = 0 := by simpa using h
    rw [if_neg (by simp [h'])]
    conv => whnf
    repeat (first | (refine go_E34 ?_; conv => whnf) | (refine lk_E34 ?_; conv => whnf))
    first | refine ⟨rfl, _, rfl, ?_⟩ | refine ⟨_, rfl, ?_⟩
    rfl
  have h' : rnK r w b = 0 := by simpa using h
  have hO : okN r w = true := by
    unfold rnK at h'
    split at h'
    · assumption
    · cases h'
  have hb := okR_bounds (okN_R hO)
  conv => whnf
  repeat (first | (refine go_E34 ?_; conv => whnf) | (refine lk_E34 ?_; conv => whnf))
  first | refine ⟨_, _, rfl, sc_E34 (wrong_sat r hr hb), ?_⟩ | refine .inl ⟨_, _, rfl, sc_E34 (wrong_sat r hr hb), ?_⟩
  conv => whnf
  repeat (first | (refine go_E34 ?_; conv => whnf) | (refine lk_E34 ?_; conv => whnf))
  cases h2 : decide (((wrP r).length : Int) > 10)
  · rw [if_neg (by simp at h2; omega)]
    conv => whnf
    repeat (first | (refine go_E34 ?_; conv => whnf) | (refine lk_E34 ?_; conv => whnf))
    first | refine ⟨rfl, _, rfl, ?_⟩ | refine ⟨_, rfl, ?_⟩
    rfl
  · rw [if_pos ⟨h', by simp at h2; omega⟩]
    conv => whnf
    repeat (first | (refine go_E34 ?_; conv => whnf) | (refine lk_E34 ?_; conv => whnf))
    first | refine ⟨rfl, _, rfl, ?_⟩ | refine ⟨_, rfl, ?_⟩
    rfl
end Go.Proofs.Ytejncabmppobfaa
/- Contracts: lists of lists of places: made, chosen from, the first of them. -/
set_option linter.unusedVariables false
set_option linter.unusedSimpArgs false
namespace Go.V
end Go.V
namespace Go.Proofs.Ytejncabmppobfaa
open Go.V
end Go.Proofs.Ytejncabmppobfaa
/- Contracts: all repairs; those that keep a bound; the first of them. -/
set_option linter.unusedVariables false
set_option linter.unusedSimpArgs false
namespace Go.V
def lx (ls : List (List Pl)) (i : Nat) : List Pl := ls.getD i []
/-- What is kept, moved to the front, behind the first j. -/
def dlX (keep : List Pl → Bool) (ls : List (List Pl)) : Nat → List (List Pl)
  | 0 => ls
  | j + 1 => if keep (lx ls j) = true then (dlX keep ls j).set ((ls.take j).filter keep).length (lx ls j) else dlX keep ls j
@[simp] theorem dlX_len (keep : List Pl → Bool) (ls : List (List Pl)) : ∀ j, (dlX keep ls j).length = ls.length
  | 0 => rfl
  | j + 1 => by simp only [dlX]; split <;> simp [dlX_len keep ls j]
theorem below_succ' {p : Nat → Bool} {n : Nat} (h : ∀ j, j < n → p j = false) (hn : p n = false) : ∀ j, j < n + 1 → p j = false := fun j hj => by
  by_cases e : j = n
  · rw [e]; exact hn
  · exact h j (by omega)
end Go.V
namespace Go.Proofs.Ytejncabmppobfaa
open Go.V
end Go.Proofs.Ytejncabmppobfaa
/- Contracts: of lists of lists of places those that are kept, and the first one. Printed by gene37.py. -/
set_option linter.unusedVariables false
set_option linter.unusedSimpArgs false
namespace Go.V
theorem idxN_neg {n : Nat} {p : Nat → Bool} (h : idxN n p = -1) : ∀ j, j < n → p j = false := by
  intro j hj
  cases hp : p j
  · rfl
  · exfalso
    unfold idxN at h
    cases hf : (List.range n).find? p with
    | none => have := List.find?_eq_none.1 hf j (by simpa using hj); simp [hp] at this
    | some i => rw [hf] at h; simp at h
theorem idxN_first {n : Nat} {p : Nat → Bool} (h : ¬ idxN n p = -1) : ∃ i, i < n ∧ idxN n p = i ∧ p i = true ∧ ∀ j, j < i → p j = false := by
  unfold idxN at h ⊢
  revert h
  cases hf : (List.range n).find? p with
  | none => intro h; exact absurd rfl h
  | some i =>
    intro h
    refine ⟨i, by have := List.mem_of_find?_eq_some hf; simpa using this, rfl, List.find?_some hf, fun j hj => ?_⟩
    have := List.find?_range_eq_some.1 hf
    have := this.2.2 j hj
    simpa using this
end Go.V
namespace Go.Proofs.Ytejncabmppobfaa
open Go.V
end Go.Proofs.Ytejncabmppobfaa
/- Contracts: the fewest repairs, the repairs with the least drips, both sides. -/
set_option linter.unusedVariables false
set_option linter.unusedSimpArgs false
namespace Go.V
end Go.V
namespace Go.Proofs.Ytejncabmppobfaa
open Go.V
def frK (r : Roof) (w : Nat → Int) (b : Bool) : Int := if rnK r w b = 0 ∧ 10 < (wrP r).length then 3 else rnK r w b
theorem rnK_zero {r : Roof} {w : Nat → Int} {b : Bool} (h : rnK r w b = 0) : okN r w = true ∧ b = true := by
  unfold rnK at h
  split at h
  · rename_i h1
    split at h
    · rename_i h2; exact ⟨h1, h2⟩
    · cases h
  · cases h
theorem frK_zero {r : Roof} {w : Nat → Int} {b : Bool} (h : frK r w b = 0) : rnK r w b = 0 ∧ (wrP r).length ≤ 10 := by
  unfold frK at h
  split at h
  · cases h
  · rename_i h1; exact ⟨h, by omega⟩
end Go.Proofs.Ytejncabmppobfaa
/- Places that may lie anywhere: lists of pairs of numbers of 8 bits; which of them a roof has: both sides. -/
set_option linter.unusedVariables false
set_option linter.unusedSimpArgs false
set_option maxRecDepth 4000
namespace Go.V
/- Words for the walks of this text: their default arguments are tried where they are used. -/
theorem go_E51 {P Q : Prop} (k : Q) (h : P := by first | exact Nat.le_of_ble_eq_true rfl | exact trivial | exact rfl | decide | omega | (simp [splice]; done) | (constructor <;> omega) | (simp [splice]; omega)) : P ∧ Q := ⟨h, k⟩
theorem lk_E51 {α : Type} {o : Option α} {K : α → Prop} {x : α} (k : K x) (h : o = some x := by first | exact pqA (by omega) | exact pqB (by omega)) : optK o K := optK_of h k
theorem sc_E51 {P : Program} {g : FuncId} {args args' : List D} {res : D} (h : Sat P g args res) (e : args' = args := by repeat (first | rfl | exact vfull (by first | (simp [splice]; done) | (simp [splice]; omega)) | exact rfull (by first | (simp [splice]; done) | (simp [splice]; omega)) | exact vsplice (by simp) (by simp) | refine ceq ?_ ?_ | refine Eq.trans (vsplice (by first | (simp; done) | (simp; omega)) (by first | (simp; done) | (simp; omega))) ?_)) : Sat P g args' res := Sat.of_eq h e
theorem hold_E51 {P : Prop} (h : P := by (repeat' (first | exact trivial | apply And.intro)) <;> (first | rfl | exact succ8 (by omega) | exact succ64 (by omega) | exact CapOk.fn (by assumption) _ _ | exact vintS (by omega) | exact vintS (by rw [w64 (by omega) (by omega)]; omega) | exact vintS (by rw [w8 (by omega) (by omega)]; omega) | exact vslcS (by omega) | exact vslcS (by simp))) : P := h
end Go.V
namespace Go.V
@[irreducible] def pqC (ps : List (Int × Int)) : List Value := ps.flatMap fun q => [.int .i8 q.1, .int .i8 q.2]
theorem pqC_def (ps : List (Int × Int)) : pqC ps = ps.flatMap fun q => [.int .i8 q.1, .int .i8 q.2] := by unfold pqC; rfl
theorem pqC_cons (q : Int × Int) (ps : List (Int × Int)) : pqC (q :: ps) = .int .i8 q.1 :: .int .i8 q.2 :: pqC ps := by simp [pqC_def]
theorem pqC_nil : pqC [] = [] := by simp [pqC_def]
@[simp] theorem pqC_len : ∀ (ps : List (Int × Int)), (pqC ps).length = ps.length * 2
  | [] => by simp [pqC_nil]
  | q :: ps => by rw [pqC_cons]; simp [pqC_len ps]; omega
theorem pqC_sub : ∀ {ps : List (Int × Int)} {i : Nat}, i < ps.length → ((pqC ps).drop (i * 2)).take 2 = [.int .i8 (px ps i).1, .int .i8 (px ps i).2]
  | [], i, h => by simp at h
  | q :: ps, 0, h => by rw [pqC_cons]; rfl
  | q :: ps, i + 1, h => by
    rw [pqC_cons, show (i + 1) * 2 = i * 2 + 1 + 1 by omega, List.drop_succ_cons, List.drop_succ_cons, pqC_sub (by simpa using h)]
    rfl
def pqD (m : Bool) (ps : List (Int × Int)) : D := .row m 2 (.v (.agg ⟨pqC ps⟩)) ps.length
def pq1 (q : Int × Int) : D := .v (.agg ⟨[.int .i8 q.1, .int .i8 q.2]⟩)
theorem pqA {ps : List (Int × Int)} {i : Nat} (h : i < ps.length) : nth (pqC ps) (0 + (i : Int).toNat * 2 + 0) = some (.int .i8 (px ps i).1) := by
  have := pqC_sub h
  have e : (pqC ps)[i * 2]? = some (.int .i8 (px ps i).1) := by
    have h2 : (((pqC ps).drop (i * 2)).take 2)[0]? = some (.int .i8 (px ps i).1) := by rw [this]; rfl
    rw [List.getElem?_take, if_pos (by omega), List.getElem?_drop] at h2
    simpa using h2
  rw [nth_eq, show 0 + (i : Int).toNat * 2 + 0 = i * 2 by simp]
  exact e
theorem pqB {ps : List (Int × Int)} {i : Nat} (h : i < ps.length) : nth (pqC ps) (0 + (i : Int).toNat * 2 + 1) = some (.int .i8 (px ps i).2) := by
  have := pqC_sub h
  have e : (pqC ps)[i * 2 + 1]? = some (.int .i8 (px ps i).2) := by
    have h2 : (((pqC ps).drop (i * 2)).take 2)[1]? = some (.int .i8 (px ps i).2) := by rw [this]; rfl
    rw [List.getElem?_take, if_pos (by omega), List.getElem?_drop] at h2
    exact h2
  rw [nth_eq, show 0 + (i : Int).toNat * 2 + 1 = i * 2 + 1 by simp]
  exact e
/-- A roof has a place, as its code reckons it. -/
def hasG (r : Roof) (q : Int × Int) : Bool := (decide (0 ≤ q.1) && decide (q.1 ≤ IntKind.i8.wrap (r.h - 1))) && (decide (0 ≤ q.2) && decide (q.2 ≤ IntKind.i8.wrap (r.w - 1)))
/-- The first of them that it has not. -/
def noQ (r : Roof) (ps : List (Int × Int)) : Bool := (List.range ps.length).any fun i => !hasG r (px ps i)
def fnH (f : Nat) (r : Roof) : D := .fn (.func f) [roofD r] []
end Go.V
namespace Go.Proofs.Ytejncabmppobfaa
open Go.V
theorem hasG_sat (r : Roof) (hr : r.In) (q : Int × Int) : Sat Try.prog 59 [roofD r, pq1 q] (.v (.bool (hasG r q))) := by
  refine sat_of_wp hMix tOk Try.func59 rfl rfl Try.ntmps59 rfl rfl Try.results59 (by kernel_rfl) ?_
  conv => whnf
  repeat (first | (refine go_E51 ?_; conv => whnf) | (refine lk_E51 ?_; conv => whnf))
  first | refine ⟨_, _, rfl, sc_E51 (within8_sat _ _ _), ?_⟩ | refine .inl ⟨_, _, rfl, sc_E51 (within8_sat _ _ _), ?_⟩
  conv => whnf
  repeat (first | (refine go_E51 ?_; conv => whnf) | (refine lk_E51 ?_; conv => whnf))
  cases h : (decide (0 ≤ q.1) && decide (q.1 ≤ IntKind.i8.wrap (r.h - 1)))
  · rw [show hasG r q = false by unfold hasG; rw [h]; rfl]
    conv => whnf
    repeat (first | (refine go_E51 ?_; conv => whnf) | (refine lk_E51 ?_; conv => whnf))
    first | refine ⟨rfl, _, rfl, ?_⟩ | refine ⟨_, rfl, ?_⟩
    rfl
  · rw [show hasG r q = (decide (0 ≤ q.2) && decide (q.2 ≤ IntKind.i8.wrap (r.w - 1))) by unfold hasG; rw [h]; rfl]
    conv => whnf
    repeat (first | (refine go_E51 ?_; conv => whnf) | (refine lk_E51 ?_; conv => whnf))
    first | refine ⟨_, _, rfl, sc_E51 (within8_sat _ _ _), ?_⟩ | refine .inl ⟨_, _, rfl, sc_E51 (within8_sat _ _ _), ?_⟩
    conv => whnf
    repeat (first | (refine go_E51 ?_; conv => whnf) | (refine lk_E51 ?_; conv => whnf))
    first | refine ⟨rfl, _, rfl, ?_⟩ | refine ⟨_, rfl, ?_⟩
    rfl
theorem notH_sat (r : Roof) (hr : r.In) (q : Int × Int) : Sat Try.prog 121 [pq1 q, .ref false (.agg [fnH 59 r]) 0] (.v (.bool (!hasG r q))) := by
  refine sat_of_wp hMix tOk Try.func121 rfl rfl Try.ntmps121 rfl rfl Try.results121 (by kernel_rfl) ?_
  conv => whnf
  repeat (first | (refine go_E51 ?_; conv => whnf) | (refine lk_E51 ?_; conv => whnf))
  first | refine ⟨_, _, rfl, sc_E51 (hasG_sat r hr q), ?_⟩ | refine .inl ⟨_, _, rfl, sc_E51 (hasG_sat r hr q), ?_⟩
  conv => whnf
  repeat (first | (refine go_E51 ?_; conv => whnf) | (refine lk_E51 ?_; conv => whnf))
  first | refine ⟨rfl, _, rfl, ?_⟩ | refine ⟨_, rfl, ?_⟩
  rfl
theorem indexQ_sat (r : Roof) (hr : r.In) (ps : List (Int × Int)) (hl : ps.length ≤ 1048576) (m : Bool) : Sat Try.prog 80 [pqD m ps, .fn (.func 121) [] [.ref false (.agg [fnH 59 r]) 0]] (.v (.int .i64 (match (List.range ps.length).find? (fun i => !hasG r (px ps i)) with | some i => (i : Int) | none => -1))) := by
  refine sat_of_wp hMix tOk Try.func80 rfl rfl Try.ntmps80 rfl rfl Try.results80 (by kernel_rfl) ?_
  conv => whnf
  repeat (first | (refine go_E51 ?_; conv => whnf) | (refine lk_E51 ?_; conv => whnf))
  refine loop_rule (α := Nat) (fun i => [(0, pqD m ps), (1, .fn (.func 121) [] [.ref false (.agg [fnH 59 r]) 0]), (7, .v (.int .i64 ps.length)), (8, .v (.int .i64 i))]) (fun i => []) (fun i => i ≤ ps.length ∧ ∀ j, j < i → (!hasG r (px ps j)) = false) (fun i => ps.length - i) (0) ?_ (sim_of (rn := []) rfl ?_ ?_) ?_
  · exact ⟨by omega, fun j hj => by omega⟩
  · exact hold_E51
  · ((repeat' (first | exact trivial | apply And.intro)) <;> ((first | refine ⟨_, _, rfl, rfl, ?_⟩ ); rfl))
  rintro i ⟨hi, hall⟩
  conv => whnf
  repeat (first | (refine go_E51 ?_; conv => whnf) | (refine lk_E51 ?_; conv => whnf))
  cases h : decide ((i : Int) < (ps.length : Int))
  · have hin : i = ps.length := by simp at h; omega
    subst hin
    have e : (List.range ps.length).find? (fun i => !hasG r (px ps i)) = none := by
      rw [List.find?_range_eq_none]; intro j hj; simp [hall j hj]
    rw [e]
    conv => whnf
    repeat (first | (refine go_E51 ?_; conv => whnf) | (refine lk_E51 ?_; conv => whnf))
    first | refine ⟨rfl, _, rfl, ?_⟩ | refine ⟨_, rfl, ?_⟩
    rfl
  have hin : i < ps.length := by simpa using h
  have el : List.take 2 (List.drop ((i : Int).toNat * 2) (pqC ps)) = [.int .i8 (px ps i).1, .int .i8 (px ps i).2] := by rw [show (i : Int).toNat * 2 = i * 2 by simp]; exact pqC_sub hin
  have nxt := fun h => below_succ (p := fun j => (!hasG r (px ps j)) = false) hall h
  have sN := notH_sat r hr (px ps i)
  unfold pq1 at sN
  rw [← el] at sN
  conv => whnf
  repeat (first | (refine go_E51 ?_; conv => whnf) | (refine lk_E51 ?_; conv => whnf))
  first | refine ⟨_, _, rfl, sc_E51 (sN), ?_⟩ | refine .inl ⟨_, _, rfl, sc_E51 (sN), ?_⟩
  conv => whnf
  repeat (first | (refine go_E51 ?_; conv => whnf) | (refine lk_E51 ?_; conv => whnf))
  cases h2 : hasG r (px ps i)
  · have e : (List.range ps.length).find? (fun i => !hasG r (px ps i)) = some i := by
      rw [List.find?_range_eq_some]
      exact ⟨by rw [h2]; rfl, by rw [List.mem_range]; exact hin, fun j hj => by simp [hall j hj]⟩
    rw [e]
    conv => whnf
    repeat (first | (refine go_E51 ?_; conv => whnf) | (refine lk_E51 ?_; conv => whnf))
    first | refine ⟨rfl, _, rfl, ?_⟩ | refine ⟨_, rfl, ?_⟩
    rfl
  · conv => whnf
    repeat (first | (refine go_E51 ?_; conv => whnf) | (refine lk_E51 ?_; conv => whnf))
    refine ⟨i + 1, ?_, ?_, sim_of (rn := []) rfl ?_ ?_⟩
    · (dsimp only; omega)
    · exact ⟨by omega, nxt (by rw [h2]; rfl)⟩
    · exact hold_E51
    · ((repeat' (first | exact trivial | apply And.intro)) <;> ((first | refine ⟨_, _, rfl, rfl, ?_⟩ ); rfl))
theorem idx_any {n : Nat} {p : Nat → Bool} : decide ((match (List.range n).find? p with | some i => (i : Int) | none => -1) ≥ 0) = (List.range n).any p := by
  rw [Bool.eq_iff_iff, decide_eq_true_iff, List.any_eq_true]
  cases h : (List.range n).find? p with
  | none =>
    rw [List.find?_eq_none] at h
    dsimp only
    exact ⟨fun h => by omega, fun ⟨i, h1, h2⟩ => absurd h2 (h i h1)⟩
  | some i =>
    have h1 := List.mem_of_find?_eq_some h
    have h2 := List.find?_some h
    dsimp only
    exact ⟨fun _ => ⟨i, h1, h2⟩, fun _ => by simp⟩
theorem containsQ_sat (r : Roof) (hr : r.In) (ps : List (Int × Int)) (hl : ps.length ≤ 1048576) (m : Bool) : Sat Try.prog 120 [pqD m ps, .fn (.func 121) [] [.ref false (.agg [fnH 59 r]) 0]] (.v (.bool (noQ r ps))) := by
  have sI := indexQ_sat r hr ps hl false
  have e := idx_any (n := ps.length) (p := fun i => !hasG r (px ps i))
  refine sat_of_wp hMix tOk Try.func120 rfl rfl Try.ntmps120 rfl rfl Try.results120 (by kernel_rfl) ?_
  conv => whnf
  repeat (first | (refine go_E51 ?_; conv => whnf) | (refine lk_E51 ?_; conv => whnf))
  first | refine ⟨_, _, rfl, sc_E51 (sI), ?_⟩ | refine .inl ⟨_, _, rfl, sc_E51 (sI), ?_⟩
  conv => whnf
  repeat (first | (refine go_E51 ?_; conv => whnf) | (refine lk_E51 ?_; conv => whnf))
  rw [e]
  first | refine ⟨rfl, _, rfl, ?_⟩ | refine ⟨_, rfl, ?_⟩
  rfl
theorem areAllQ_sat (r : Roof) (hr : r.In) (ps : List (Int × Int)) (hl : ps.length ≤ 1048576) (m : Bool) : Sat Try.prog 79 [pqD m ps, fnH 59 r] (.v (.bool (!noQ r ps))) := by
  refine sat_of_wp hMix tOk Try.func79 rfl rfl Try.ntmps79 rfl rfl Try.results79 (by kernel_rfl) ?_
  conv => whnf
  repeat (first | (refine go_E51 ?_; conv => whnf) | (refine lk_E51 ?_; conv => whnf))
  first | refine ⟨_, _, rfl, sc_E51 (containsQ_sat r hr ps hl false), ?_⟩ | refine .inl ⟨_, _, rfl, sc_E51 (containsQ_sat r hr ps hl false), ?_⟩
  conv => whnf
  repeat (first | (refine go_E51 ?_; conv => whnf) | (refine lk_E51 ?_; conv => whnf))
  first | refine ⟨rfl, _, rfl, ?_⟩ | refine ⟨_, rfl, ?_⟩
  rfl
end Go.Proofs.Ytejncabmppobfaa
/- Repairs that are checked: both sides. -/
set_option linter.unusedVariables false
set_option linter.unusedSimpArgs false
set_option maxRecDepth 4000
namespace Go.V
/- Words for the walks of this text: their default arguments are tried where they are used. -/
theorem go_E52 {P Q : Prop} (k : Q) (h : P := by first | exact Nat.le_of_ble_eq_true rfl | exact trivial | exact rfl | decide | omega | (simp [splice]; done) | (constructor <;> omega) | (simp [splice]; omega)) : P ∧ Q := ⟨h, k⟩
theorem lk_E52 {α : Type} {o : Option α} {K : α → Prop} {x : α} (k : K x) (h : o = some x := by first | exact pqA (by omega) | exact pqB (by omega)) : optK o K := optK_of h k
theorem sc_E52 {P : Program} {g : FuncId} {args args' : List D} {res : D} (h : Sat P g args res) (e : args' = args := by repeat (first | rfl | exact vfull (by first | (simp [splice]; done) | (simp [splice]; omega)) | exact rfull (by first | (simp [splice]; done) | (simp [splice]; omega)) | exact vsplice (by simp) (by simp) | refine ceq ?_ ?_ | refine Eq.trans (vsplice (by first | (simp; done) | (simp; omega)) (by first | (simp; done) | (simp; omega))) ?_)) : Sat P g args' res := Sat.of_eq h e
theorem leaf_E52 {P : Prop} (h : P := by first | rfl | exact succ8 (by omega) | exact succ64 (by omega) | exact CapOk.fn (by assumption) _ _ | exact vintS (by omega) | exact vintS (by rw [w64 (by omega) (by omega)]; omega) | exact vintS (by rw [w8 (by omega) (by omega)]; omega) | exact vslcS (by omega) | exact vslcS (by simp)) : P := h
theorem okt_E52 {P : Prop} (h : P := by first | omega | (dsimp only; omega) | ((repeat' apply And.intro) <;> omega) | (dsimp only; (repeat' apply And.intro) <;> omega) | trivial) : P := h
end Go.V
namespace Go.V
def AllQ (ps : List (Int × Int)) : Prop := ∀ i, i < ps.length → (-128 ≤ (px ps i).1 ∧ (px ps i).1 ≤ 127) ∧ (-128 ≤ (px ps i).2 ∧ (px ps i).2 ≤ 127)
def plQ (ps : List (Int × Int)) : List Pl := ps.map fun q => (q.1.toNat, q.2.toNat)
@[simp] theorem plQ_len (ps : List (Int × Int)) : (plQ ps).length = ps.length := by simp [plQ]
theorem hasG_is {r : Roof} (hb : Rb r) (q : Int × Int) : hasG r q = ((decide (q.1 ≥ 0) && decide (q.1 ≤ r.h - 1)) && (decide (q.2 ≥ 0) && decide (q.2 ≤ r.w - 1))) := by
  unfold hasG
  rw [w8 (by omega) (by omega), w8 (by omega) (by omega)]
theorem noQ_false {r : Roof} {ps : List (Int × Int)} (h : noQ r ps = false) : ∀ i, i < ps.length → hasG r (px ps i) = true := by
  intro i hi
  unfold noQ at h
  rw [List.any_eq_false] at h
  have := h i (by simpa using hi)
  simpa using this
theorem pq_places : ∀ {ps : List (Int × Int)}, (∀ i, i < ps.length → 0 ≤ (px ps i).1 ∧ 0 ≤ (px ps i).2) → pqC ps = placesC (plQ ps)
  | [], _ => by rw [pqC_nil]; rfl
  | q :: ps, h => by
    have h0 := h 0 (by simp)
    have ih := pq_places (ps := ps) fun i hi => h (i + 1) (by simp; omega)
    have e1 : ((q.1.toNat : Nat) : Int) = q.1 := by have : 0 ≤ q.1 := h0.1; omega
    have e2 : ((q.2.toNat : Nat) : Int) = q.2 := by have : 0 ≤ q.2 := h0.2; omega
    rw [pqC_cons, ih]
    show _ = Value.int .i8 ((q.1.toNat : Nat) : Int) :: Value.int .i8 ((q.2.toNat : Nat) : Int) :: placesC (plQ ps)
    rw [e1, e2]
theorem plQ_at {ps : List (Int × Int)} {i : Nat} (h : i < ps.length) : nthP (plQ ps) i = ((px ps i).1.toNat, (px ps i).2.toNat) := by
  unfold nthP plQ px
  rw [List.getD_eq_getElem?_getD, List.getElem?_map, List.getD_eq_getElem?_getD]
  simp [h]
theorem pq_row {r : Roof} (hb : Rb r) {ps : List (Int × Int)} (h : noQ r ps = false) : (∀ m, pqD m ps = placesD m (plQ ps)) ∧ AllIn (plQ ps) := by
  have h1 := noQ_false h
  have h2 : ∀ i, i < ps.length → (0 ≤ (px ps i).1 ∧ (px ps i).1 ≤ 7) ∧ 0 ≤ (px ps i).2 ∧ (px ps i).2 ≤ 7 := fun i hi => by
    have := h1 i hi
    rw [hasG_is hb] at this
    simp only [Bool.and_eq_true, decide_eq_true_eq] at this
    omega
  refine ⟨fun m => ?_, fun i hi => ?_⟩
  · unfold pqD placesD
    rw [pq_places fun i hi => ⟨(h2 i hi).1.1, (h2 i hi).2.1⟩, plQ_len]
  · rw [plQ_len] at hi
    have := h2 i hi
    rw [plQ_at hi]
    dsimp only
    omega
end Go.V
namespace Go.Proofs.Ytejncabmppobfaa
open Go.V
def ckK (r : Roof) (w : Nat → Int) (ps : List (Int × Int)) (b : Int) : Int := frK r w (!noQ r ps && decide (b ≥ 0))
def ckB (r : Roof) (w : Nat → Int) (ps : List (Int × Int)) (b : Int) : Bool := if ckK r w ps b = 0 then decide (afI r w (plQ ps) ≤ b) else false
theorem l03PlacesQ_sat (r : Roof) (hr : r.In) (w : Nat → Int) (hw : RaiIn w) (ps : List (Int × Int)) (hl : ps.length ≤ 1048576) (hq : AllQ ps) (b m : Bool) : Sat Try.prog 74 [.ref false (roofD r) 0, .ref false (raiD w) 0, pqD m ps, .v (.bool b)] (.v (.int .i64 (rnK r w (b && !noQ r ps)))) := by
  refine sat_of_wp hMix tOk Try.func74 rfl rfl Try.ntmps74 rfl rfl Try.results74 (by kernel_rfl) ?_
  conv => whnf
  repeat (first | (refine go_E52 ?_; conv => whnf) | (refine lk_E52 ?_; conv => whnf))
  first | refine ⟨_, _, rfl, sc_E52 (l02Ok_sat r hr w hw), ?_⟩ | refine .inl ⟨_, _, rfl, sc_E52 (l02Ok_sat r hr w hw), ?_⟩
  conv => whnf
  repeat (first | (refine go_E52 ?_; conv => whnf) | (refine lk_E52 ?_; conv => whnf))
  cases hO : okN r w
  · conv => whnf
    repeat (first | (refine go_E52 ?_; conv => whnf) | (refine lk_E52 ?_; conv => whnf))
    rw [show rnK r w (b && !noQ r ps) = 1 by unfold rnK; rw [hO]; rfl]
    first | refine ⟨rfl, _, rfl, ?_⟩ | refine ⟨_, rfl, ?_⟩
    rfl
  have hb := okR_bounds (okN_R hO)
  obtain ⟨pf, hp0, hps, hpn⟩ : ∃ pf : Nat → Bool, pf 0 = b ∧ (∀ i, pf (i + 1) = (pf i && hasG r (px ps i))) ∧ pf ps.length = (b && !noQ r ps) :=
    ⟨fun i => b && !((List.range i).any fun j => !hasG r (px ps j)), by simp, fun i => by dsimp only; rw [List.range_succ, List.any_append]; simp [Bool.and_assoc], rfl⟩
  rw [← hpn]
  conv => whnf
  repeat (first | (refine go_E52 ?_; conv => whnf) | (refine lk_E52 ?_; conv => whnf))
  refine loop_rule (α := Nat) (fun i => [(0, .ref false (roofD r) 0), (2, pqD m ps), (3, .v (.bool (pf i))), (9, .v (.int .i64 i))]) (fun i => []) (fun i => i ≤ ps.length) (fun i => ps.length - i) (0) ?_ (sim_of (rn := []) rfl ?_ ?_) ?_
  · exact okt_E52
  · ((repeat' (first | exact trivial | apply And.intro)) <;> (first | rfl | (first | exact vboolS hp0 | exact vboolS hp0.symm) | exact leaf_E52))
  · ((repeat' (first | exact trivial | apply And.intro)) <;> ((first | refine ⟨_, _, rfl, rfl, ?_⟩ ); rfl))
  intro i hi
  conv => whnf
  repeat (first | (refine go_E52 ?_; conv => whnf) | (refine lk_E52 ?_; conv => whnf))
  cases h : decide ((i : Int) < (ps.length : Int))
  · have hin : i = ps.length := by simp at h; omega
    subst hin
    conv => whnf
    repeat (first | (refine go_E52 ?_; conv => whnf) | (refine lk_E52 ?_; conv => whnf))
    cases hpf : pf ps.length
    · conv => whnf
      repeat (first | (refine go_E52 ?_; conv => whnf) | (refine lk_E52 ?_; conv => whnf))
      rw [show rnK r w false = 2 by unfold rnK; rw [hO]; rfl]
      first | refine ⟨rfl, _, rfl, ?_⟩ | refine ⟨_, rfl, ?_⟩
      rfl
    · conv => whnf
      repeat (first | (refine go_E52 ?_; conv => whnf) | (refine lk_E52 ?_; conv => whnf))
      rw [show rnK r w true = 0 by unfold rnK; rw [hO]; rfl]
      first | refine ⟨rfl, _, rfl, ?_⟩ | refine ⟨_, rfl, ?_⟩
      rfl
  have hin : i < ps.length := by simpa using h
  have hqi := hq i hin
  have hp2 := hps i
  have el : List.take 2 (List.drop ((i : Int).toNat * 2) (pqC ps)) = [.int .i8 (px ps i).1, .int .i8 (px ps i).2] := by rw [show (i : Int).toNat * 2 = i * 2 by simp]; exact pqC_sub hin
  have sI := l01Is_sat r hr (px ps i).1 (px ps i).2 hqi.1 hqi.2
  rw [← hasG_is hb] at sI
  unfold placeD at sI
  conv => whnf
  repeat (first | (refine go_E52 ?_; conv => whnf) | (refine lk_E52 ?_; conv => whnf))
  cases hpf : pf i
  · rw [hpf, Bool.false_and] at hp2
    conv => whnf
    repeat (first | (refine go_E52 ?_; conv => whnf) | (refine lk_E52 ?_; conv => whnf))
    refine ⟨i + 1, ?_, ?_, sim_of (rn := []) rfl ?_ ?_⟩
    · (dsimp only; omega)
    · exact okt_E52
    · ((repeat' (first | exact trivial | apply And.intro)) <;> (first | rfl | (first | exact vboolS hp2 | exact vboolS hp2.symm) | exact leaf_E52))
    · ((repeat' (first | exact trivial | apply And.intro)) <;> ((first | refine ⟨_, _, rfl, rfl, ?_⟩ ); rfl))
  · rw [hpf, Bool.true_and] at hp2
    rw [← el] at sI
    conv => whnf
    repeat (first | (refine go_E52 ?_; conv => whnf) | (refine lk_E52 ?_; conv => whnf))
    first | refine ⟨_, _, rfl, sc_E52 (sI), ?_⟩ | refine .inl ⟨_, _, rfl, sc_E52 (sI), ?_⟩
    conv => whnf
    repeat (first | (refine go_E52 ?_; conv => whnf) | (refine lk_E52 ?_; conv => whnf))
    refine ⟨i + 1, ?_, ?_, sim_of (rn := []) rfl ?_ ?_⟩
    · (dsimp only; omega)
    · exact okt_E52
    · ((repeat' (first | exact trivial | apply And.intro)) <;> (first | rfl | (first | exact vboolS hp2 | exact vboolS hp2.symm) | exact leaf_E52))
    · ((repeat' (first | exact trivial | apply And.intro)) <;> ((first | refine ⟨_, _, rfl, rfl, ?_⟩ ); rfl))
theorem implCheck_sat (r : Roof) (hr : r.In) (w : Nat → Int) (hw : RaiIn w) (ps : List (Int × Int)) (hl : ps.length ≤ 1048576) (hq : AllQ ps) (b : Int) (m : Bool) : Sat Try.prog 37 [roofD r, raiD w, pqD m ps, .v (.int .i64 b)] (.tup [.v (.bool (ckB r w ps b)), .v (.int .i64 (ckK r w ps b))]) := by
  have sQ := areAllQ_sat r hr ps hl false
  have sK := repairCode_sat r hr w hw (!noQ r ps && decide (b ≥ 0))
  have eK : (if rnK r w (!noQ r ps && decide (b ≥ 0)) = 0 ∧ 10 < (wrP r).length then (3 : Int) else rnK r w (!noQ r ps && decide (b ≥ 0))) = ckK r w ps b := rfl
  rw [eK] at sK
  have eR : List.take 67 (List.drop 0 (roofC r)) = roofC r := take_drop0 (by simp)
  have sQ' : Sat Try.prog 79 [pqD false ps, .fn (.func 59) [.v (.agg ⟨List.take 67 (List.drop 0 (roofC r))⟩)] []] (.v (.bool (!noQ r ps))) := by rw [eR]; exact sQ
  have bad : ckK r w ps b ≠ 0 → ckB r w ps b = false := fun h => by unfold ckB; rw [if_neg h]
  have good : ckK r w ps b = 0 → okN r w = true ∧ noQ r ps = false := fun h => by
    have := rnK_zero (frK_zero h).1
    simp at this
    exact ⟨this.1, this.2.1⟩
  refine sat_of_wp hMix tOk Try.func37 rfl rfl Try.ntmps37 rfl rfl Try.results37 (by kernel_rfl) ?_
  conv => whnf
  repeat (first | (refine go_E52 ?_; conv => whnf) | (refine lk_E52 ?_; conv => whnf))
  cases hN : noQ r ps
  · rw [hN] at sQ' sK
    first | refine ⟨_, _, rfl, sc_E52 (sQ'), ?_⟩ | refine .inl ⟨_, _, rfl, sc_E52 (sQ'), ?_⟩
    conv => whnf
    repeat (first | (refine go_E52 ?_; conv => whnf) | (refine lk_E52 ?_; conv => whnf))
    first | refine ⟨_, _, rfl, sc_E52 (sK), ?_⟩ | refine .inl ⟨_, _, rfl, sc_E52 (sK), ?_⟩
    conv => whnf
    repeat (first | (refine go_E52 ?_; conv => whnf) | (refine lk_E52 ?_; conv => whnf))
    cases h0 : (ckK r w ps b != 0)
    · have h0' : ckK r w ps b = 0 := by simpa using h0
      have hO := (good h0').1
      have hb := okR_bounds (okN_R hO)
      have hrow := pq_row hb hN
      have sA := after_sat r hr hb w (okN_w hO) (plQ ps) (by simp; omega) hrow.2 false
      rw [← hrow.1] at sA
      rw [show ckB r w ps b = decide (afI r w (plQ ps) ≤ b) by unfold ckB; rw [if_pos h0'], h0']
      conv => whnf
      repeat (first | (refine go_E52 ?_; conv => whnf) | (refine lk_E52 ?_; conv => whnf))
      first | refine ⟨_, _, rfl, sc_E52 (sA), ?_⟩ | refine .inl ⟨_, _, rfl, sc_E52 (sA), ?_⟩
      conv => whnf
      repeat (first | (refine go_E52 ?_; conv => whnf) | (refine lk_E52 ?_; conv => whnf))
      first | refine ⟨rfl, _, rfl, ?_⟩ | refine ⟨_, rfl, ?_⟩
      rfl
    · rw [bad (by simpa using h0)]
      conv => whnf
      repeat (first | (refine go_E52 ?_; conv => whnf) | (refine lk_E52 ?_; conv => whnf))
      first | refine ⟨rfl, _, rfl, ?_⟩ | refine ⟨_, rfl, ?_⟩
      rfl
  · rw [hN] at sQ' sK
    have h0' : ckK r w ps b ≠ 0 := fun h => by have := (good h).2; rw [hN] at this; cases this
    rw [bad h0']
    first | refine ⟨_, _, rfl, sc_E52 (sQ'), ?_⟩ | refine .inl ⟨_, _, rfl, sc_E52 (sQ'), ?_⟩
    conv => whnf
    repeat (first | (refine go_E52 ?_; conv => whnf) | (refine lk_E52 ?_; conv => whnf))
    first | refine ⟨_, _, rfl, sc_E52 (sK), ?_⟩ | refine .inl ⟨_, _, rfl, sc_E52 (sK), ?_⟩
    conv => whnf
    repeat (first | (refine go_E52 ?_; conv => whnf) | (refine lk_E52 ?_; conv => whnf))
    rw [show (ckK r w ps b != 0) = true by simpa using h0']
    conv => whnf
    repeat (first | (refine go_E52 ?_; conv => whnf) | (refine lk_E52 ?_; conv => whnf))
    first | refine ⟨rfl, _, rfl, ?_⟩ | refine ⟨_, rfl, ?_⟩
    rfl
theorem specCheck_sat (r : Roof) (hr : r.In) (w : Nat → Int) (hw : RaiIn w) (ps : List (Int × Int)) (hl : ps.length ≤ 1048576) (hq : AllQ ps) (b : Int) (m : Bool) : Sat Try.prog 34 [roofD r, raiD w, pqD m ps, .v (.int .i64 b)] (.tup [.v (.bool (ckB r w ps b)), .v (.int .i64 (ckK r w ps b))]) := by
  have sK := l03PlacesQ_sat r hr w hw ps hl hq (decide (b ≥ 0)) false
  rw [Bool.and_comm] at sK
  have bad : ckK r w ps b ≠ 0 → ckB r w ps b = false := fun h => by unfold ckB; rw [if_neg h]
  have good : ckK r w ps b = 0 → okN r w = true ∧ noQ r ps = false := fun h => by
    have := rnK_zero (frK_zero h).1
    simp at this
    exact ⟨this.1, this.2.1⟩
  refine sat_of_wp hMix tOk Try.func34 rfl rfl Try.ntmps34 rfl rfl Try.results34 (by kernel_rfl) ?_
  conv => whnf
  repeat (first | (refine go_E52 ?_; conv => whnf) | (refine lk_E52 ?_; conv => whnf))
  first | refine ⟨_, _, rfl, sc_E52 (sK), ?_⟩ | refine .inl ⟨_, _, rfl, sc_E52 (sK), ?_⟩
  conv => whnf
  repeat (first | (refine go_E52 ?_; conv => whnf) | (refine lk_E52 ?_; conv => whnf))
  cases h1 : (rnK r w (!noQ r ps && decide (b ≥ 0)) == 0)
  · have h1' : ¬ rnK r w (!noQ r ps && decide (b ≥ 0)) = 0 := by simpa using h1
    have hk : ckK r w ps b = rnK r w (!noQ r ps && decide (b ≥ 0)) := by unfold ckK frK; rw [if_neg (by rintro ⟨h, _⟩; exact h1' h)]
    rw [bad (by rw [hk]; exact h1'), hk]
    conv => whnf
    repeat (first | (refine go_E52 ?_; conv => whnf) | (refine lk_E52 ?_; conv => whnf))
    rw [show (rnK r w (!noQ r ps && decide (b ≥ 0)) != 0) = true by simpa using h1']
    conv => whnf
    repeat (first | (refine go_E52 ?_; conv => whnf) | (refine lk_E52 ?_; conv => whnf))
    first | refine ⟨rfl, _, rfl, ?_⟩ | refine ⟨_, rfl, ?_⟩
    rfl
  have h1' : rnK r w (!noQ r ps && decide (b ≥ 0)) = 0 := by simpa using h1
  obtain ⟨hO, hQ⟩ := rnK_zero h1'
  have hN : noQ r ps = false := by simp at hQ; exact hQ.1
  have hb := okR_bounds (okN_R hO)
  have hrow := pq_row hb hN
  have sA := l03After_sat r hr hb w (okN_w hO) (plQ ps) (by simp; omega) hrow.2 false
  rw [← hrow.1] at sA
  conv => whnf
  repeat (first | (refine go_E52 ?_; conv => whnf) | (refine lk_E52 ?_; conv => whnf))
  first | refine ⟨_, _, rfl, sc_E52 (l03Wrong_sat r hr hb), ?_⟩ | refine .inl ⟨_, _, rfl, sc_E52 (l03Wrong_sat r hr hb), ?_⟩
  conv => whnf
  repeat (first | (refine go_E52 ?_; conv => whnf) | (refine lk_E52 ?_; conv => whnf))
  cases h2 : decide (((wrP r).length : Int) > 10)
  · have hk : ckK r w ps b = 0 := by unfold ckK frK; rw [if_neg (by rintro ⟨_, h⟩; simp at h2; omega), h1']
    rw [show ckB r w ps b = decide (afI r w (plQ ps) ≤ b) by unfold ckB; rw [if_pos hk], hk]
    conv => whnf
    repeat (first | (refine go_E52 ?_; conv => whnf) | (refine lk_E52 ?_; conv => whnf))
    rw [h1']
    conv => whnf
    repeat (first | (refine go_E52 ?_; conv => whnf) | (refine lk_E52 ?_; conv => whnf))
    first | refine ⟨_, _, rfl, sc_E52 (sA), ?_⟩ | refine .inl ⟨_, _, rfl, sc_E52 (sA), ?_⟩
    conv => whnf
    repeat (first | (refine go_E52 ?_; conv => whnf) | (refine lk_E52 ?_; conv => whnf))
    first | refine ⟨rfl, _, rfl, ?_⟩ | refine ⟨_, rfl, ?_⟩
    rfl
  · have hk : ckK r w ps b = 3 := by unfold ckK frK; rw [if_pos ⟨h1', by simp at h2; omega⟩]
    rw [bad (by rw [hk]; decide), hk]
    conv => whnf
    repeat (first | (refine go_E52 ?_; conv => whnf) | (refine lk_E52 ?_; conv => whnf))
    first | refine ⟨rfl, _, rfl, ?_⟩ | refine ⟨_, rfl, ?_⟩
    rfl
end Go.Proofs.Ytejncabmppobfaa
/- Repairs that are needless: plain words, the reference's side. -/
set_option linter.unusedVariables false
set_option linter.unusedSimpArgs false
set_option maxRecDepth 4000
namespace Go.V
/- Words for the walks of this text: their default arguments are tried where they are used. -/
theorem go_E53 {P Q : Prop} (k : Q) (h : P := by first | exact Nat.le_of_ble_eq_true rfl | exact trivial | exact rfl | decide | omega | (simp [splice]; done) | (constructor <;> omega) | (simp [splice]; omega)) : P ∧ Q := ⟨h, k⟩
theorem lk_E53 {α : Type} {o : Option α} {K : α → Prop} {x : α} (k : K x) (h : o = some x := by first | exact pqA (by omega) | exact pqB (by omega)) : optK o K := optK_of h k
theorem sc_E53 {P : Program} {g : FuncId} {args args' : List D} {res : D} (h : Sat P g args res) (e : args' = args := by repeat (first | rfl | exact vfull (by first | (simp [splice]; done) | (simp [splice]; omega)) | exact rfull (by first | (simp [splice]; done) | (simp [splice]; omega)) | exact vsplice (by simp) (by simp) | refine ceq ?_ ?_ | refine Eq.trans (vsplice (by first | (simp; done) | (simp; omega)) (by first | (simp; done) | (simp; omega))) ?_)) : Sat P g args' res := Sat.of_eq h e
theorem leaf_E53 {P : Prop} (h : P := by first | rfl | exact succ8 (by omega) | exact succ64 (by omega) | exact CapOk.fn (by assumption) _ _ | exact vintS (by omega) | exact vintS (by rw [w64 (by omega) (by omega)]; omega) | exact vintS (by rw [w8 (by omega) (by omega)]; omega) | exact vslcS (by omega) | exact vslcS (by simp)) : P := h
theorem hold_E53 {P : Prop} (h : P := by (repeat' (first | exact trivial | apply And.intro)) <;> (first | rfl | exact succ8 (by omega) | exact succ64 (by omega) | exact CapOk.fn (by assumption) _ _ | exact vintS (by omega) | exact vintS (by rw [w64 (by omega) (by omega)]; omega) | exact vintS (by rw [w8 (by omega) (by omega)]; omega) | exact vslcS (by omega) | exact vslcS (by simp))) : P := h
theorem okt_E53 {P : Prop} (h : P := by first | omega | (dsimp only; omega) | ((repeat' apply And.intro) <;> omega) | (dsimp only; (repeat' apply And.intro) <;> omega) | trivial) : P := h
end Go.V
namespace Go.Proofs.Ytejncabmppobfaa
open Go.V
def nlK (r : Roof) (w : Nat → Int) (ps : List (Int × Int)) (b : Int) : Int := if ckK r w ps b = 0 ∧ ckB r w ps b = false then 4 else ckK r w ps b
def nlP (r : Roof) (w : Nat → Int) (ps : List (Int × Int)) (b : Int) (i : Nat) : Bool := decide (afI r w (plQ (ps.take i ++ ps.drop (i + 1))) ≤ b)
def nlL (r : Roof) (w : Nat → Int) (ps : List (Int × Int)) (b : Int) (k : Nat) : List Nat := (List.range k).filter (nlP r w ps b)
def nlV (r : Roof) (w : Nat → Int) (ps : List (Int × Int)) (b : Int) : D := .tup [intsD true (toI (if nlK r w ps b = 0 then nlL r w ps b ps.length else [])), .v (.int .i64 (nlK r w ps b))]
theorem nl_yes {r : Roof} {w : Nat → Int} {ps : List (Int × Int)} {b : Int} {k : Nat} (h : nlP r w ps b k = true) : nlL r w ps b (k + 1) = nlL r w ps b k ++ [k] := by
  unfold nlL; rw [List.range_succ, List.filter_append]; simp [h]
theorem nl_no {r : Roof} {w : Nat → Int} {ps : List (Int × Int)} {b : Int} {k : Nat} (h : nlP r w ps b k = false) : nlL r w ps b (k + 1) = nlL r w ps b k := by
  unfold nlL; rw [List.range_succ, List.filter_append]; simp [h]
theorem nl_len (r : Roof) (w : Nat → Int) (ps : List (Int × Int)) (b : Int) (k : Nat) : (nlL r w ps b k).length ≤ k := by
  unfold nlL
  refine Nat.le_trans (List.length_filter_le _ _) ?_
  simp
theorem pqC_take : ∀ (ps : List (Int × Int)) (k : Nat), (pqC ps).take (k * 2) = pqC (ps.take k)
  | [], k => by simp [pqC_nil]
  | q :: ps, 0 => by simp [pqC_nil]
  | q :: ps, k + 1 => by
    rw [pqC_cons, show (k + 1) * 2 = k * 2 + 1 + 1 by omega, List.take_succ_cons, List.take_succ_cons, pqC_take ps k, List.take_succ_cons, pqC_cons]
theorem pqC_drop : ∀ (ps : List (Int × Int)) (k : Nat), (pqC ps).drop (k * 2) = pqC (ps.drop k)
  | [], k => by simp [pqC_nil]
  | q :: ps, 0 => by simp
  | q :: ps, k + 1 => by
    rw [pqC_cons, show (k + 1) * 2 = k * 2 + 1 + 1 by omega, List.drop_succ_cons, List.drop_succ_cons, pqC_drop ps k, List.drop_succ_cons]
theorem pqC_append (a b : List (Int × Int)) : pqC (a ++ b) = pqC a ++ pqC b := by simp [pqC_def]
theorem noQ_mem {r : Roof} {ps : List (Int × Int)} : noQ r ps = false ↔ ∀ q ∈ ps, hasG r q = true := by
  constructor
  · intro h q hq
    obtain ⟨i, hi, e⟩ := List.getElem_of_mem hq
    have := noQ_false h i hi
    unfold px at this
    rw [List.getD_eq_getElem?_getD, List.getElem?_eq_getElem hi, Option.getD_some, e] at this
    exact this
  · intro h
    unfold noQ
    rw [List.any_eq_false]
    intro i hi
    rw [List.mem_range] at hi
    have : px ps i ∈ ps := by
      unfold px
      rw [List.getD_eq_getElem?_getD, List.getElem?_eq_getElem hi]
      exact List.getElem_mem hi
    simp [h _ this]
theorem noQ_less {r : Roof} {ps : List (Int × Int)} (h : noQ r ps = false) (i : Nat) : noQ r (ps.take i ++ ps.drop (i + 1)) = false := by
  rw [noQ_mem] at h ⊢
  intro q hq
  rcases List.mem_append.1 hq with hq | hq
  · exact h q (List.mem_of_mem_take hq)
  · exact h q (List.mem_of_mem_drop hq)
theorem pq_less {ps : List (Int × Int)} {i : Nat} (hi : i < ps.length) : List.take (((0 + i) + (ps.length - (i + 1))) * 2) (List.drop 0 (([] ++ List.take (i * 2) (List.drop (0 * 2) (pqC ps))) ++ List.take ((ps.length - (i + 1)) * 2) (List.drop ((i + 1) * 2) (pqC ps)))) = pqC (ps.take i ++ ps.drop (i + 1)) := by
  rw [Nat.zero_add, Nat.zero_mul, List.drop_zero, List.drop_zero, List.nil_append, pqC_take, pqC_drop, take_full (n := (ps.length - (i + 1)) * 2) (by simp), ← pqC_append]
  exact take_full (by simp; omega)
theorem specNeedless_sat (r : Roof) (hr : r.In) (w : Nat → Int) (hw : RaiIn w) (ps : List (Int × Int)) (hl : ps.length ≤ 1048576) (hq : AllQ ps) (b : Int) (m : Bool) : Sat Try.prog 10 [roofD r, raiD w, pqD m ps, .v (.int .i64 b)] (nlV r w ps b) := by
  have sK := specCheck_sat r hr w hw ps hl hq b false
  have good : ckK r w ps b = 0 → okN r w = true ∧ noQ r ps = false := fun h => by
    have := rnK_zero (frK_zero h).1
    simp at this
    exact ⟨this.1, this.2.1⟩
  refine sat_of_wp hMix tOk Try.func10 rfl rfl Try.ntmps10 rfl rfl Try.results10 (by kernel_rfl) ?_
  conv => whnf
  repeat (first | (refine go_E53 ?_; conv => whnf) | (refine lk_E53 ?_; conv => whnf))
  first | refine ⟨_, _, rfl, sc_E53 (sK), ?_⟩ | refine .inl ⟨_, _, rfl, sc_E53 (sK), ?_⟩
  conv => whnf
  repeat (first | (refine go_E53 ?_; conv => whnf) | (refine lk_E53 ?_; conv => whnf))
  cases h1 : (ckK r w ps b == 0)
  · have h1' : ¬ ckK r w ps b = 0 := by simpa using h1
    have hk : nlK r w ps b = ckK r w ps b := by unfold nlK; rw [if_neg (by rintro ⟨h, _⟩; exact h1' h)]
    have hv : nlV r w ps b = .tup [intsD true [], .v (.int .i64 (ckK r w ps b))] := by unfold nlV; rw [hk, if_neg h1']; rfl
    rw [hv]
    conv => whnf
    repeat (first | (refine go_E53 ?_; conv => whnf) | (refine lk_E53 ?_; conv => whnf))
    rw [show (ckK r w ps b != 0) = true by simpa using h1']
    conv => whnf
    repeat (first | (refine go_E53 ?_; conv => whnf) | (refine lk_E53 ?_; conv => whnf))
    first | refine ⟨rfl, _, rfl, ?_⟩ | refine ⟨_, rfl, ?_⟩
    skip
    unfold intsD; rw [intsC_nil]; rfl
  have h1' : ckK r w ps b = 0 := by simpa using h1
  cases h2 : ckB r w ps b
  · have hk : nlK r w ps b = 4 := by unfold nlK; rw [if_pos ⟨h1', h2⟩]
    have hv : nlV r w ps b = .tup [intsD true [], .v (.int .i64 4)] := by unfold nlV; rw [hk, if_neg (by decide)]; rfl
    rw [hv]
    conv => whnf
    repeat (first | (refine go_E53 ?_; conv => whnf) | (refine lk_E53 ?_; conv => whnf))
    first | refine ⟨rfl, _, rfl, ?_⟩ | refine ⟨_, rfl, ?_⟩
    skip
    unfold intsD; rw [intsC_nil]; rfl
  have hk : nlK r w ps b = 0 := by unfold nlK; rw [if_neg (by rintro ⟨_, h⟩; rw [h2] at h; cases h), h1']
  have hv : nlV r w ps b = .tup [intsD true (toI (nlL r w ps b ps.length)), .v (.int .i64 0)] := by unfold nlV; rw [hk, if_pos rfl]
  rw [hv]
  obtain ⟨hO, hN⟩ := good h1'
  have hb := okR_bounds (okN_R hO)
  conv => whnf
  repeat (first | (refine go_E53 ?_; conv => whnf) | (refine lk_E53 ?_; conv => whnf))
  rw [h1']
  conv => whnf
  repeat (first | (refine go_E53 ?_; conv => whnf) | (refine lk_E53 ?_; conv => whnf))
  refine loop_rule (α := Nat) (fun i => [(2, pqD m ps), (3, .v (.int .i64 b)), (4, .ptr (4, 0, 0) 0), (5, .ptr (5, 0, 0) 0), (10, .slc true 1 (57, 0, 0) 0 (nlL r w ps b i).length), (13, .v (.int .i64 i))]) (fun i => [((4, 0, 0), roofD r), ((5, 0, 0), raiD w), ((57, 0, 0), .v (.agg ⟨intsC (toI (nlL r w ps b i))⟩))]) (fun i => i ≤ ps.length) (fun i => ps.length - i) (0) ?_ (sim_of (rn := [((4, 0, 0), (4, 0, 0)), ((5, 0, 0), (5, 0, 0)), ((57, 0, 0), (15, 0, 0))]) rfl ?_ ?_) ?_
  · exact okt_E53
  · exact hold_E53
  · ((repeat' (first | exact trivial | apply And.intro)) <;> ((first | refine ⟨_, _, rfl, rfl, ?_⟩ ); first | rfl | (exact cset (show [] = intsC [] from intsC_nil.symm))))
  intro i hi
  have hll := nl_len r w ps b i
  conv => whnf
  repeat (first | (refine go_E53 ?_; conv => whnf) | (refine lk_E53 ?_; conv => whnf))
  cases h : decide ((i : Int) < (ps.length : Int))
  · have hin : i = ps.length := by simp at h; omega
    subst hin
    conv => whnf
    repeat (first | (refine go_E53 ?_; conv => whnf) | (refine lk_E53 ?_; conv => whnf))
    first | refine ⟨rfl, _, rfl, ?_⟩ | refine ⟨_, rfl, ?_⟩
    skip
    unfold intsD; rw [toI_len]; rfl
  have hin : i < ps.length := by simpa using h
  have ei1 : IntKind.i64.wrap ((i : Int) + 1) = ((i + 1 : Nat) : Int) := by rw [w64 (by omega) (by omega)]; push_cast; rfl
  have hrow := pq_row hb (noQ_less hN i)
  have hlen : (ps.take i ++ ps.drop (i + 1)).length = (0 + i) + (ps.length - (i + 1)) := by simp; omega
  have sA := l03After_sat r hr hb w (okN_w hO) (plQ (ps.take i ++ ps.drop (i + 1))) (by rw [plQ_len, hlen]; omega) hrow.2 false
  rw [← hrow.1] at sA
  conv => whnf
  repeat (first | (refine go_E53 ?_; conv => whnf) | (refine lk_E53 ?_; conv => whnf))
  rw [ei1]
  conv => whnf
  repeat (first | (refine go_E53 ?_; conv => whnf) | (refine lk_E53 ?_; conv => whnf))
  have eP := pq_less (ps := ps) hin
  have sA' : Sat Try.prog 35 [.ref false (roofD r) 0, .ref false (raiD w) 0, .row false 2 (.v (.agg ⟨List.take (((0 + i) + (ps.length - (i + 1))) * 2) (List.drop 0 (([] ++ List.take (i * 2) (List.drop (0 * 2) (pqC ps))) ++ List.take ((ps.length - (i + 1)) * 2) (List.drop ((i + 1) * 2) (pqC ps))))⟩)) ((0 + i) + (ps.length - (i + 1)))] (.v (.int .i64 (afI r w (plQ (ps.take i ++ ps.drop (i + 1)))))) := by
    rw [eP, ← hlen]; exact sA
  first | refine ⟨_, _, rfl, sc_E53 (sA'), ?_⟩ | refine .inl ⟨_, _, rfl, sc_E53 (sA'), ?_⟩
  conv => whnf
  repeat (first | (refine go_E53 ?_; conv => whnf) | (refine lk_E53 ?_; conv => whnf))
  rw [show decide (afI r w (plQ (ps.take i ++ ps.drop (i + 1))) ≤ b) = nlP r w ps b i from rfl]
  cases hp : nlP r w ps b i
  · have e1 := nl_no hp
    conv => whnf
    repeat (first | (refine go_E53 ?_; conv => whnf) | (refine lk_E53 ?_; conv => whnf))
    refine ⟨i + 1, ?_, ?_, sim_of (rn := [((4, 0, 0), (4, 0, 0)), ((5, 0, 0), (5, 0, 0)), ((57, 0, 0), (57, 0, 0))]) rfl ?_ ?_⟩
    · (dsimp only; omega)
    · exact okt_E53
    · ((repeat' (first | exact trivial | apply And.intro)) <;> (first | rfl | (exact vslcS (by rw [e1])) | exact leaf_E53))
    · ((repeat' (first | exact trivial | apply And.intro)) <;> ((first | refine ⟨_, _, rfl, rfl, ?_⟩ ); first | rfl | ((exact cset (by rw [e1])))))
  · have e1 := nl_yes hp
    have e2 : intsC (toI (nlL r w ps b i)) ++ [.int .i64 (i : Int)] = intsC (toI (nlL r w ps b (i + 1))) := by rw [e1, toI_snoc, intsC_append, intsC_one]
    have e3 : (nlL r w ps b (i + 1)).length = (nlL r w ps b i).length + 1 := by rw [e1]; simp
    conv => whnf
    repeat (first | (refine go_E53 ?_; conv => whnf) | (refine lk_E53 ?_; conv => whnf))
    refine ⟨i + 1, ?_, ?_, sim_of (rn := [((4, 0, 0), (4, 0, 0)), ((5, 0, 0), (5, 0, 0)), ((57, 0, 0), (57, 1, 0))]) rfl ?_ ?_⟩
    · (dsimp only; omega)
    · exact okt_E53
    · ((repeat' (first | exact trivial | apply And.intro)) <;> (first | rfl | (exact vslcS e3) | exact leaf_E53))
    · ((repeat' (first | exact trivial | apply And.intro)) <;> ((first | refine ⟨_, _, rfl, rfl, ?_⟩ ); first | rfl | (exact cset e2)))
end Go.Proofs.Ytejncabmppobfaa
/- Repairs that are needless: what is reckoned place by place is what is reckoned one by one: plain. -/
set_option linter.unusedVariables false
set_option linter.unusedSimpArgs false
namespace Go.Proofs.Ytejncabmppobfaa
open Go.V
theorem roof_eq : ∀ {a b : Roof}, a.w = b.w → a.h = b.h → a.s = b.s → a.t = b.t → a = b
  | ⟨_, _, _, _⟩, ⟨_, _, _, _⟩, h1, h2, h3, h4 => by
    dsimp only at h1 h2 h3 h4
    subst h1 h2 h3 h4
    rfl
/-- Repairs with the same places are the same. -/
theorem afI_mem {r : Roof} {w : Nat → Int} {l l' : List Pl} (h : ∀ q, q ∈ l ↔ q ∈ l') : afI r w l = afI r w l' := by
  have e : mnR r l l.length = mnR r l' l'.length := by
    refine roof_eq (by simp) (by simp) (by simp) ?_
    funext c k
    rw [mnR_t r l c k _ (Nat.le_refl _), mnR_t r l' c k _ (Nat.le_refl _), List.take_length, List.take_length]
    by_cases hm : (c, k) ∈ l
    · rw [if_pos hm, if_pos ((h _).1 hm)]
    · rw [if_neg hm, if_neg (fun hc => hm ((h _).2 hc))]
  unfold afI
  rw [e]
/-- A place is needless, as the program reckons it. -/
def ndP (r : Roof) (w : Nat → Int) (ps : List (Int × Int)) (b : Int) (q : Int × Int) : Bool := decide (1 < (ps.filter fun x => x == q).length) || decide (afI r w (plQ (ps.filter fun x => !(x == q))) ≤ b)
theorem split_at {ps : List (Int × Int)} {i : Nat} (hi : i < ps.length) : ps = ps.take i ++ px ps i :: ps.drop (i + 1) := by
  have : px ps i = ps[i] := by unfold px; rw [List.getD_eq_getElem?_getD, List.getElem?_eq_getElem hi]; rfl
  rw [this, List.getElem_cons_drop, List.take_append_drop]
theorem nd_is {r : Roof} {w : Nat → Int} {ps : List (Int × Int)} {b : Int} (hb : afI r w (plQ ps) ≤ b) {i : Nat} (hi : i < ps.length) : ndP r w ps b (px ps i) = nlP r w ps b i := by
  have hs := split_at hi
  unfold ndP nlP
  generalize px ps i = q at *
  generalize ps.take i = u at *
  generalize ps.drop (i + 1) = v at *
  have hf : (ps.filter fun x => x == q).length = (u.filter fun x => x == q).length + 1 + (v.filter fun x => x == q).length := by
    rw [hs, List.filter_append, List.filter_cons]
    simp; omega
  by_cases hc : 1 < (ps.filter fun x => x == q).length
  · have hm : q ∈ u ∨ q ∈ v := by
      apply Classical.byContradiction
      intro hn
      rw [not_or] at hn
      have h1 : (u.filter fun x => x == q) = [] := by
        rw [List.filter_eq_nil_iff]; intro x hx; simp; rintro rfl; exact hn.1 hx
      have h2 : (v.filter fun x => x == q) = [] := by
        rw [List.filter_eq_nil_iff]; intro x hx; simp; rintro rfl; exact hn.2 hx
      rw [h1, h2] at hf
      simp at hf; omega
    have e : afI r w (plQ (u ++ v)) = afI r w (plQ ps) := by
      refine afI_mem fun x => ?_
      unfold plQ
      rw [hs]
      simp only [List.map_append, List.map_cons, List.mem_append, List.mem_cons]
      constructor
      · rintro (h | h)
        · exact .inl h
        · exact .inr (.inr h)
      · rintro (h | h | h)
        · exact .inl h
        · subst h
          rcases hm with hm | hm
          · exact .inl (List.mem_map.2 ⟨q, hm, rfl⟩)
          · exact .inr (List.mem_map.2 ⟨q, hm, rfl⟩)
        · exact .inr h
    rw [e, show decide (1 < (ps.filter fun x => x == q).length) = true by simpa using hc, show decide (afI r w (plQ ps) ≤ b) = true by simpa using hb]
    rfl
  · have h1 : (u.filter fun x => x == q) = [] := List.eq_nil_of_length_eq_zero (by omega)
    have h2 : (v.filter fun x => x == q) = [] := List.eq_nil_of_length_eq_zero (by omega)
    have k1 : (u.filter fun x => !(x == q)) = u := by
      rw [List.filter_eq_self]; intro x hx
      rw [List.filter_eq_nil_iff] at h1
      have := h1 x hx
      simpa using this
    have k2 : (v.filter fun x => !(x == q)) = v := by
      rw [List.filter_eq_self]; intro x hx
      rw [List.filter_eq_nil_iff] at h2
      have := h2 x hx
      simpa using this
    have e : (ps.filter fun x => !(x == q)) = u ++ v := by
      rw [hs, List.filter_append, List.filter_cons, k1, k2]
      simp
    rw [e, show decide (1 < (ps.filter fun x => x == q).length) = false by simpa using hc, Bool.false_or]
end Go.Proofs.Ytejncabmppobfaa
/- Lists of places that may lie anywhere: clones; the closure of NeedlessRepairs. -/
set_option linter.unusedVariables false
set_option linter.unusedSimpArgs false
set_option maxRecDepth 4000
namespace Go.V
/- Words for the walks of this text: their default arguments are tried where they are used. -/
theorem go_E55 {P Q : Prop} (k : Q) (h : P := by first | exact Nat.le_of_ble_eq_true rfl | exact trivial | exact rfl | decide | omega | (simp [splice]; done) | (constructor <;> omega) | (simp [splice]; omega)) : P ∧ Q := ⟨h, k⟩
theorem lk_E55 {α : Type} {o : Option α} {K : α → Prop} {x : α} (k : K x) (h : o = some x := by first | exact pqA (by omega) | exact pqB (by omega)) : optK o K := optK_of h k
end Go.V
namespace Go.Proofs.Ytejncabmppobfaa
open Go.V
theorem cloneQ0_sat (a : Option Addr) (cap : Nat) : Sat Try.prog 39 [.v (.slice a 0 cap)] (.row true 2 (.v (.agg ⟨[]⟩)) 0) := by
  refine satN_of_wp hMix tOk Try.func39 rfl rfl Try.ntmps39 rfl rfl Try.results39 (by kernel_rfl) ?_
  conv => whnf
  repeat (first | (refine go_E55 ?_; conv => whnf) | (refine lk_E55 ?_; conv => whnf))
  cases a with
  | none =>
    conv => whnf
    repeat (first | (refine go_E55 ?_; conv => whnf) | (refine lk_E55 ?_; conv => whnf))
    first | refine ⟨rfl, _, rfl, [_], rfl, ?_, rfl⟩ | refine ⟨_, rfl, [_], rfl, ?_, rfl⟩
    ((repeat' (first | exact trivial | apply And.intro)) <;> first | exact .inl rfl | exact .inr ⟨rfl, rfl⟩)
  | some b =>
    conv => whnf
    repeat (first | (refine go_E55 ?_; conv => whnf) | (refine lk_E55 ?_; conv => whnf))
    first | refine ⟨rfl, _, rfl, [_], rfl, ?_, rfl⟩ | refine ⟨_, rfl, [_], rfl, ?_, rfl⟩
    ((repeat' (first | exact trivial | apply And.intro)) <;> first | exact .inl rfl | exact .inr ⟨rfl, rfl⟩)
theorem cloneQ_sat (ps : List (Int × Int)) (hl : ps.length ≤ 1048576) : Sat Try.prog 39 [pqD false ps] (pqD true ps) := by
  by_cases h0 : ps.length = 0
  · have : ps = [] := List.eq_nil_of_length_eq_zero h0
    subst this
    unfold pqD
    rw [pqC_nil]
    exact Sat.row0 cloneQ0_sat
  refine sat_of_wp hMix tOk Try.func39 rfl rfl Try.ntmps39 rfl rfl Try.results39 (by kernel_rfl) ?_
  conv => whnf
  repeat (first | (refine go_E55 ?_; conv => whnf) | (refine lk_E55 ?_; conv => whnf))
  first | refine ⟨rfl, _, rfl, ?_⟩ | refine ⟨_, rfl, ?_⟩
  skip
  refine Eq.trans (b := D.row true 2 (.v (.agg ⟨[] ++ pqC ps⟩)) (0 + ps.length)) ?_ rfl
  rw [Nat.zero_add]; rfl
theorem eqAgg_pq {q a : Int × Int} (h : (-128 ≤ q.1 ∧ q.1 ≤ 127) ∧ (-128 ≤ q.2 ∧ q.2 ≤ 127)) (h' : (-128 ≤ a.1 ∧ a.1 ≤ 127) ∧ (-128 ≤ a.2 ∧ a.2 ≤ 127)) {xs ys : List Value} (hx : xs = [.int .i8 q.1, .int .i8 q.2]) (hy : ys = [.int .i8 a.1, .int .i8 a.2]) : EqAgg Try.prog 56 xs ys (q == a) := by
  subst hx hy
  have hc : Program.cellsOf Try.prog 56 = 2 := by kernel_rfl
  have hc1 : Program.cellsOf Try.prog 22 = 1 := by kernel_rfl
  have wf : ∀ n : Int, -128 ≤ n ∧ n ≤ 127 → (Lit.int .i8 n).wf = true := fun n hn => by
    simp [Lit.wf, IntKind.min, IntKind.max, IntKind.bits, IntKind.signed]; omega
  have fm : ∀ q : Int × Int, Value.formed Try.prog 56 (.agg ⟨[.int .i8 q.1, .int .i8 q.2]⟩) = true := by
    intro q
    unfold Value.formed
    rw [Try.underlying56]
    simp [hc]
  have cells : ∀ q : Int × Int, ((-128 ≤ q.1 ∧ q.1 ≤ 127) ∧ (-128 ≤ q.2 ∧ q.2 ≤ 127)) → ∀ x ∈ [Value.int .i8 q.1, Value.int .i8 q.2], IntCell x := by
    intro q hq x hx
    simp only [List.mem_cons, List.not_mem_nil, or_false] at hx
    rcases hx with rfl | rfl
    · exact wf _ hq.1
    · exact wf _ hq.2
  have kl : ∀ q : Int × Int, ((-128 ≤ q.1 ∧ q.1 ≤ 127) ∧ (-128 ≤ q.2 ∧ q.2 ≤ 127)) → Program.keyLits Try.prog 2 56 [.int .i8 q.1, .int .i8 q.2] = some (litsOf [.int .i8 q.1, .int .i8 q.2]) := fun q hq => by
    refine keyLits_struct (d := 1) Try.underlying56 (by rw [hc]; rfl) (by kernel_rfl) (fun f hf => ?_) ?_
    · simp only [List.mem_cons, List.not_mem_nil, or_false] at hf
      rcases hf with rfl | rfl
      · rw [hc1]; exact Go.V.keyLits_int (P := Try.prog) (d := 0) (e := 22) (k := .i8) (z := q.1) Try.underlying22 (wf _ hq.1)
      · rw [hc1]; exact Go.V.keyLits_int (P := Try.prog) (d := 0) (e := 22) (k := .i8) (z := q.2) Try.underlying22 (wf _ hq.2)
    · simp [hc1]
  refine eqAgg_of (m := 3) (by omega) (by kernel_rfl) (by kernel_rfl) (fm q) (fm a) (kl q h) (kl a h') (cells q h) (cells a h') ?_
  rw [beq_iff_eq]
  constructor
  · rintro rfl; rfl
  · intro e
    simp only [List.cons.injEq, Value.int.injEq, true_and, and_true] at e
    exact Prod.ext e.1 e.2
theorem needless1_sat (q a : Int × Int) (h : (-128 ≤ q.1 ∧ q.1 ≤ 127) ∧ (-128 ≤ q.2 ∧ q.2 ≤ 127)) (h' : (-128 ≤ a.1 ∧ a.1 ≤ 127) ∧ (-128 ≤ a.2 ∧ a.2 ≤ 127)) : Sat Try.prog 40 [pq1 q, .ref false (pq1 a) 0] (.v (.bool (q == a))) := by
  refine sat_of_wp hMix tOk Try.func40 rfl rfl Try.ntmps40 rfl rfl Try.results40 (by kernel_rfl) ?_
  conv => whnf
  repeat (first | (refine go_E55 ?_; conv => whnf) | (refine lk_E55 ?_; conv => whnf))
  refine ⟨_, eqAgg_pq h h' rfl rfl, ?_⟩
  conv => whnf
  repeat (first | (refine go_E55 ?_; conv => whnf) | (refine lk_E55 ?_; conv => whnf))
  first | refine ⟨rfl, _, rfl, ?_⟩ | refine ⟨_, rfl, ?_⟩
  rfl
end Go.Proofs.Ytejncabmppobfaa
/- Contracts: of places those that are kept. -/
set_option linter.unusedVariables false
set_option linter.unusedSimpArgs false
set_option maxRecDepth 4000
namespace Go.V
/- Words for the walks of this text: their default arguments are tried where they are used. -/
theorem go_E56 {P Q : Prop} (k : Q) (h : P := by first | exact Nat.le_of_ble_eq_true rfl | exact trivial | exact rfl | decide | omega | (simp [splice]; done) | (constructor <;> omega) | (simp [splice]; omega)) : P ∧ Q := ⟨h, k⟩
theorem lk_E56 {α : Type} {o : Option α} {K : α → Prop} {x : α} (k : K x) (h : o = some x := by first | exact pqA (by omega) | exact pqB (by omega)) : optK o K := optK_of h k
theorem sc_E56 {P : Program} {g : FuncId} {args args' : List D} {res : D} (h : Sat P g args res) (e : args' = args := by repeat (first | rfl | exact vfull (by first | (simp [splice]; done) | (simp [splice]; omega)) | exact rfull (by first | (simp [splice]; done) | (simp [splice]; omega)) | exact vsplice (by simp) (by simp) | refine ceq ?_ ?_ | refine Eq.trans (vsplice (by first | (simp; done) | (simp; omega)) (by first | (simp; done) | (simp; omega))) ?_)) : Sat P g args' res := Sat.of_eq h e
theorem leaf_E56 {P : Prop} (h : P := by first | rfl | exact succ8 (by omega) | exact succ64 (by omega) | exact CapOk.fn (by assumption) _ _ | exact vintS (by omega) | exact vintS (by rw [w64 (by omega) (by omega)]; omega) | exact vintS (by rw [w8 (by omega) (by omega)]; omega) | exact vslcS (by omega) | exact vslcS (by simp)) : P := h
end Go.V
namespace Go.V
theorem px_some {ps : List (Int × Int)} {i : Nat} (h : i < ps.length) : ps[i]? = some (px ps i) := by
  unfold px; rw [List.getD_eq_getElem?_getD]; simp [h]
/-- What is kept, moved to the front, behind the first j. -/
def dlQ (keep : (Int × Int) → Bool) (ls : List (Int × Int)) : Nat → List (Int × Int)
  | 0 => ls
  | j + 1 => if keep (px ls j) = true then (dlQ keep ls j).set ((ls.take j).filter keep).length (px ls j) else dlQ keep ls j
@[simp] theorem dlQ_len (keep : (Int × Int) → Bool) (ls : List (Int × Int)) : ∀ j, (dlQ keep ls j).length = ls.length
  | 0 => rfl
  | j + 1 => by simp only [dlQ]; split <;> simp [dlQ_len keep ls j]
theorem take_px {ls : List (Int × Int)} {j : Nat} (h : j < ls.length) : ls.take (j + 1) = ls.take j ++ [px ls j] := by
  rw [List.take_add_one, px_some h]; rfl
theorem kq_le (keep : (Int × Int) → Bool) (ls : List (Int × Int)) (j : Nat) : ((ls.take j).filter keep).length ≤ j := by
  have := List.length_filter_le keep (ls.take j)
  simp at this; omega
theorem kq_yes {keep : (Int × Int) → Bool} {ls : List (Int × Int)} {j : Nat} (h : j < ls.length) (hk : keep (px ls j) = true) : (ls.take (j + 1)).filter keep = (ls.take j).filter keep ++ [px ls j] := by
  rw [take_px h, List.filter_append]; simp [hk]
theorem kq_no {keep : (Int × Int) → Bool} {ls : List (Int × Int)} {j : Nat} (h : j < ls.length) (hk : keep (px ls j) = false) : (ls.take (j + 1)).filter keep = (ls.take j).filter keep := by
  rw [take_px h, List.filter_append]; simp [hk]
theorem dlQ_spec (keep : (Int × Int) → Bool) (ls : List (Int × Int)) : ∀ j, j ≤ ls.length → (dlQ keep ls j).take ((ls.take j).filter keep).length = (ls.take j).filter keep ∧ (dlQ keep ls j).drop j = ls.drop j
  | 0, _ => by simp [dlQ]
  | j + 1, hj => by
    obtain ⟨h1, h2⟩ := dlQ_spec keep ls j (by omega)
    have hle := kq_le keep ls j
    have hlen := dlQ_len keep ls j
    have hlt : j < ls.length := by omega
    have hd : (dlQ keep ls j).drop (j + 1) = ls.drop (j + 1) := by
      rw [← List.drop_drop, ← List.drop_drop, h2]
    cases hk : keep (px ls j)
    · rw [kq_no hlt hk]
      simp only [dlQ, hk]
      exact ⟨h1, hd⟩
    · rw [kq_yes hlt hk]
      simp only [dlQ, hk, if_true]
      generalize hF : (ls.take j).filter keep = F at *
      refine ⟨?_, ?_⟩
      · rw [List.length_append, List.length_singleton, List.take_add_one, List.take_set, List.getElem?_set_self (by omega)]
        rw [List.set_eq_of_length_le (by simp; omega), h1]
        rfl
      · rw [List.drop_set, if_pos (by omega)]; exact hd
theorem dlQ_at {keep : (Int × Int) → Bool} {ls : List (Int × Int)} {j : Nat} (h : j < ls.length) : px (dlQ keep ls j) j = px ls j := by
  have h2 := (dlQ_spec keep ls j (by omega)).2
  have e1 := px_some (ps := dlQ keep ls j) (i := j) (by simpa using h)
  have e2 := px_some h
  have e3 : ((dlQ keep ls j).drop j)[0]? = (ls.drop j)[0]? := by rw [h2]
  simp only [List.getElem?_drop, Nat.add_zero] at e3
  rw [e1, e2] at e3
  exact Option.some.inj e3
theorem dlQ_same {keep : (Int × Int) → Bool} {ls : List (Int × Int)} : ∀ {j : Nat}, j ≤ ls.length → (∀ i, i < j → keep (px ls i) = true) → dlQ keep ls j = ls ∧ ((ls.take j).filter keep).length = j
  | 0, _, _ => by simp [dlQ]
  | j + 1, hj, h => by
    obtain ⟨h1, h2⟩ := dlQ_same (j := j) (by omega) fun i hi => h i (by omega)
    have hk := h j (by omega)
    refine ⟨?_, by rw [kq_yes (by omega) hk, List.length_append, h2]; rfl⟩
    simp only [dlQ, hk, if_true, h1, h2]
    apply List.ext_getElem?
    intro i
    rw [List.getElem?_set]
    split
    · rename_i e; subst e; rw [if_pos (by omega), px_some (by omega)]
    · rfl
theorem px_mem {ps : List (Int × Int)} {i : Nat} (h : i < ps.length) : px ps i ∈ ps := List.mem_of_getElem? (px_some h)
theorem all_kq {keep : (Int × Int) → Bool} {ps : List (Int × Int)} (h : ∀ i, i < ps.length → keep (px ps i) = true) : ps.all keep = true ∧ ps.filter keep = ps := by
  have h' : ∀ x ∈ ps, keep x = true := by
    intro x hx
    obtain ⟨i, hi, rfl⟩ := List.getElem_of_mem hx
    have := h i hi
    unfold px at this
    rw [List.getD_eq_getElem?_getD, List.getElem?_eq_getElem hi] at this
    exact this
  exact ⟨List.all_eq_true.2 h', List.filter_eq_self.2 h'⟩
def kqC (keep : (Int × Int) → Bool) (ps : List (Int × Int)) : List (Int × Int) := ps.filter keep ++ List.replicate (ps.length - (ps.filter keep).length) (0, 0)
theorem pq_set : ∀ {ps : List (Int × Int)} {i o : Nat} {q : Int × Int}, i < ps.length → o = i * 2 → splice (pqC ps) o [.int .i8 q.1, .int .i8 q.2] = pqC (ps.set i q)
  | [], i, o, q, h, _ => by simp at h
  | p :: ps, 0, o, q, h, ho => by
    subst ho
    rw [List.set_cons_zero, pqC_cons, pqC_cons]
    rfl
  | p :: ps, i + 1, o, q, h, ho => by
    have ih := pq_set (ps := ps) (i := i) (o := i * 2) (q := q) (by simpa using h) rfl
    subst ho
    rw [List.set_cons_succ, pqC_cons, pqC_cons, ← ih, show (i + 1) * 2 = i * 2 + 1 + 1 by omega]
    unfold splice
    rw [List.take_succ_cons, List.take_succ_cons, show i * 2 + 1 + 1 + [Value.int .i8 q.1, Value.int .i8 q.2].length = (i * 2 + [Value.int .i8 q.1, Value.int .i8 q.2].length) + 1 + 1 by simp <;> omega, List.drop_succ_cons, List.drop_succ_cons]
    rfl
theorem pq_rep : ∀ n, pqC (List.replicate n (0, 0)) = rep n [.int .i8 0, .int .i8 0]
  | 0 => by rw [List.replicate_zero, pqC_nil]; rfl
  | n + 1 => by
    rw [List.replicate_succ, pqC_cons, pq_rep n]
    unfold rep
    rw [List.replicate_succ, List.flatten_cons]
    rfl
theorem pqC_app (a b : List (Int × Int)) : pqC (a ++ b) = pqC a ++ pqC b := by simp [pqC_def]
theorem pqC_takeV : ∀ (ps : List (Int × Int)) (k : Nat), (pqC ps).take (k * 2) = pqC (ps.take k)
  | [], k => by simp [pqC_nil]
  | q :: ps, 0 => by simp [pqC_nil]
  | q :: ps, k + 1 => by
    rw [pqC_cons, show (k + 1) * 2 = k * 2 + 1 + 1 by omega, List.take_succ_cons, List.take_succ_cons, pqC_takeV ps k, List.take_succ_cons, pqC_cons]
theorem kq_end {keep : (Int × Int) → Bool} {ps : List (Int × Int)} {o n : Nat} {zs : List Value} (ho : o = (ps.filter keep).length * 2) (hz : zs = rep n [.int .i8 0, .int .i8 0]) (hn : n = ps.length - (ps.filter keep).length) :
    splice (pqC (dlQ keep ps ps.length)) o zs = pqC (kqC keep ps) := by
  subst hz ho hn
  have h1 := (dlQ_spec keep ps ps.length (Nat.le_refl _)).1
  rw [List.take_length] at h1
  have hle := List.length_filter_le keep ps
  have h2 : (pqC (dlQ keep ps ps.length)).take ((ps.filter keep).length * 2) = pqC (ps.filter keep) := by
    have := pqC_takeV (dlQ keep ps ps.length) (ps.filter keep).length
    rw [this, h1]
  unfold splice kqC
  rw [h2, pqC_app, pq_rep, List.drop_eq_nil_of_le (by rw [pqC_len, dlQ_len, rep_length]; simp <;> omega), List.append_nil]
end Go.V
namespace Go.Proofs.Ytejncabmppobfaa
open Go.V
theorem indexFQ_sat {g : Nat} {caps : List D} {del : (Int × Int) → Bool} (ps : List (Int × Int)) (hl : ps.length ≤ 1048576) (hc : CapOk caps) (hg : ∀ i, i < ps.length → Sat Try.prog g (pq1 (px ps i) :: caps) (.v (.bool (del (px ps i))))) (m : Bool) :
    Sat Try.prog 80 [pqD m ps, .fn (.func g) [] caps] (.v (.int .i64 (idxN ps.length fun i => del (px ps i)))) := by
  refine sat_of_wp hMix tOk Try.func80 rfl rfl Try.ntmps80 rfl rfl Try.results80 (by kernel_rfl) ?_
  conv => whnf
  repeat (first | (refine go_E56 ?_; conv => whnf) | (refine lk_E56 ?_; conv => whnf))
  refine loop_rule (α := Nat) (fun i => [(0, pqD m ps), (1, .fn (.func g) [] caps), (7, .v (.int .i64 ps.length)), (8, .v (.int .i64 i))]) (fun i => []) (fun i => i ≤ ps.length ∧ ∀ j, j < i → del (px ps j) = false) (fun i => ps.length - i) (0) ?_ (sim_of (rn := []) rfl ?_ ?_) ?_
  · exact ⟨by omega, fun j hj => by omega⟩
  · ((repeat' (first | exact trivial | apply And.intro)) <;> (first | rfl | (exact hc.fn _ _) | exact leaf_E56))
  · ((repeat' (first | exact trivial | apply And.intro)) <;> ((first | refine ⟨_, _, rfl, rfl, ?_⟩ ); rfl))
  rintro i ⟨hi, hall⟩
  conv => whnf
  repeat (first | (refine go_E56 ?_; conv => whnf) | (refine lk_E56 ?_; conv => whnf))
  cases h : decide ((i : Int) < (ps.length : Int))
  · have hin : i = ps.length := by simp at h; omega
    subst hin
    rw [idxN_none hall]
    conv => whnf
    repeat (first | (refine go_E56 ?_; conv => whnf) | (refine lk_E56 ?_; conv => whnf))
    first | refine ⟨rfl, _, rfl, ?_⟩ | refine ⟨_, rfl, ?_⟩
    rfl
  have hin : i < ps.length := by simpa using h
  have el : List.take 2 (List.drop ((i : Int).toNat * 2) (pqC ps)) = [.int .i8 (px ps i).1, .int .i8 (px ps i).2] := by rw [show (i : Int).toNat * 2 = i * 2 by simp]; exact pqC_sub hin
  have sN := hg i hin
  unfold pq1 at sN
  rw [← el] at sN
  conv => whnf
  repeat (first | (refine go_E56 ?_; conv => whnf) | (refine lk_E56 ?_; conv => whnf))
  first | refine ⟨_, _, CapOk.one (by assumption) rfl, sc_E56 (sN), ?_⟩ | refine .inl ⟨_, _, CapOk.one (by assumption) rfl, sc_E56 (sN), ?_⟩
  conv => whnf
  repeat (first | (refine go_E56 ?_; conv => whnf) | (refine lk_E56 ?_; conv => whnf))
  cases hd : del (px ps i)
  · conv => whnf
    repeat (first | (refine go_E56 ?_; conv => whnf) | (refine lk_E56 ?_; conv => whnf))
    refine ⟨i + 1, ?_, ?_, sim_of (rn := []) rfl ?_ ?_⟩
    · (dsimp only; omega)
    · exact ⟨by omega, below_succ' hall hd⟩
    · ((repeat' (first | exact trivial | apply And.intro)) <;> (first | rfl | (exact hc.fn _ _) | exact leaf_E56))
    · ((repeat' (first | exact trivial | apply And.intro)) <;> ((first | refine ⟨_, _, rfl, rfl, ?_⟩ ); rfl))
  · rw [idxN_some hin hd hall]
    conv => whnf
    repeat (first | (refine go_E56 ?_; conv => whnf) | (refine lk_E56 ?_; conv => whnf))
    first | refine ⟨rfl, _, rfl, ?_⟩ | refine ⟨_, rfl, ?_⟩
    rfl
end Go.Proofs.Ytejncabmppobfaa
/- Contracts: of places those that are kept (slices.DeleteFunc). -/
set_option linter.unusedVariables false
set_option linter.unusedSimpArgs false
set_option maxRecDepth 4000
namespace Go.V
/- Words for the walks of this text: their default arguments are tried where they are used. -/
theorem go_E57 {P Q : Prop} (k : Q) (h : P := by first | exact Nat.le_of_ble_eq_true rfl | (simp [rep_length]; omega) | exact trivial | exact rfl | decide | omega | (simp [splice]; done) | (constructor <;> omega) | (simp [splice]; omega)) : P ∧ Q := ⟨h, k⟩
theorem lk_E57 {α : Type} {o : Option α} {K : α → Prop} {x : α} (k : K x) (h : o = some x := by first | exact pqA (by omega) | exact pqB (by omega)) : optK o K := optK_of h k
theorem sc_E57 {P : Program} {g : FuncId} {args args' : List D} {res : D} (h : Sat P g args res) (e : args' = args := by repeat (first | rfl | exact vfull (by first | (simp [splice]; done) | (simp [splice]; omega)) | exact rfull (by first | (simp [splice]; done) | (simp [splice]; omega)) | exact vsplice (by simp) (by simp) | refine ceq ?_ ?_ | refine Eq.trans (vsplice (by first | (simp; done) | (simp; omega)) (by first | (simp; done) | (simp; omega))) ?_)) : Sat P g args' res := Sat.of_eq h e
theorem leaf_E57 {P : Prop} (h : P := by first | rfl | exact succ8 (by omega) | exact succ64 (by omega) | exact CapOk.fn (by assumption) _ _ | exact vintS (by omega) | exact vintS (by rw [w64 (by omega) (by omega)]; omega) | exact vintS (by rw [w8 (by omega) (by omega)]; omega) | exact vslcS (by omega) | exact vslcS (by simp)) : P := h
end Go.V
namespace Go.Proofs.Ytejncabmppobfaa
open Go.V
set_option maxRecDepth 8000 in
theorem deleteQ_satM {g : Nat} {keep : (Int × Int) → Bool} {x1 : List Value} (ps : List (Int × Int)) (hl : 0 < ps.length ∧ ps.length ≤ 1048576) (hg : ∀ q ∈ ps, Sat Try.prog g [pq1 q, .ref false (.v (.agg ⟨x1⟩)) 0] (.v (.bool (!keep q)))) :
    SatM Try.prog 38 [.slc true 2 (lentId 0) 0 ps.length, .fn (.func g) [] [.ptr (lentId 1) 0]] [.v (.agg ⟨pqC ps⟩), .v (.agg ⟨x1⟩)]
      (.slc (ps.all keep) 2 (lentId 0) 0 (ps.filter keep).length) [some (.v (.agg ⟨pqC (kqC keep ps)⟩)), some (.v (.agg ⟨x1⟩))] [] := by
  have eT : List.take (ps.length * 2) (List.drop 0 (pqC ps)) = pqC ps := take_drop0 (by simp)
  have sI := indexFQ_sat (g := g) (caps := [.ref false (.v (.agg ⟨x1⟩)) 0]) (del := fun q => !keep q) ps (by omega) ⟨fun _ => rfl, fun _ => rfl⟩ (fun i hi => hg _ (px_mem hi)) false
  unfold pqD at sI
  rw [← eT] at sI
  refine satM_of_wp hMix tOk Try.func38 rfl rfl Try.ntmps38 rfl rfl Try.results38 (by kernel_rfl) ?_
  conv => whnf
  repeat (first | (refine go_E57 ?_; conv => whnf) | (refine lk_E57 ?_; conv => whnf))
  first | refine ⟨_, _, rfl, sc_E57 (sI), ?_⟩ | refine .inl ⟨_, _, rfl, sc_E57 (sI), ?_⟩
  conv => whnf
  repeat (first | (refine go_E57 ?_; conv => whnf) | (refine lk_E57 ?_; conv => whnf))
  cases h0 : (idxN ps.length (fun i => !keep (px ps i)) == -1)
  case true =>
    have hall := idxN_neg (by simpa using h0)
    obtain ⟨ha, hf⟩ := all_kq (keep := keep) (ps := ps) fun i hi => by have := hall i hi; simpa using this
    have hk : kqC keep ps = ps := by unfold kqC; rw [hf, Nat.sub_self]; simp
    rw [ha, hf, hk]
    conv => whnf
    repeat (first | (refine go_E57 ?_; conv => whnf) | (refine lk_E57 ?_; conv => whnf))
    refine ⟨[], _, rfl, rfl, rfl, ?_, ?_, rfl⟩
    · rfl
    ((repeat' (first | exact trivial | apply And.intro)) <;> (refine ⟨_, rfl, ?_⟩; first | rfl | (rfl)))
  obtain ⟨i0, hi0, he0, hk0, hb0⟩ := idxN_first (n := ps.length) (p := fun i => !keep (px ps i)) (by simpa using h0)
  rw [he0]
  have hsame := dlQ_same (keep := keep) (ls := ps) (j := i0) (by omega) fun i hi => by have := hb0 i hi; simpa using this
  have hno : keep (px ps i0) = false := by simpa using hk0
  have hd1 : dlQ keep ps (i0 + 1) = ps := by simp only [dlQ, hno]; exact hsame.1
  have hc1 : ((ps.take (i0 + 1)).filter keep).length = i0 := by rw [kq_no hi0 hno]; exact hsame.2
  have hall : ps.all keep = false := by
    rw [List.all_eq_false]
    exact ⟨_, px_mem hi0, by simp [hno]⟩
  rw [hall]
  conv => whnf
  repeat (first | (refine go_E57 ?_; conv => whnf) | (refine lk_E57 ?_; conv => whnf))
  refine loop_rule (α := Nat) (fun j => [(0, .slc true 2 (lentId 0) 0 ps.length), (1, .fn (.func g) [] [.ptr (lentId 1) 0]), (5, .v (.int .i64 ((ps.take j).filter keep).length)), (6, .v (.int .i64 j))]) (fun j => [(lentId 0, .v (.agg ⟨pqC (dlQ keep ps j)⟩)), (lentId 1, .v (.agg ⟨x1⟩))]) (fun j => j ≤ ps.length ∧ i0 < j ∧ ((ps.take j).filter keep).length < j) (fun j => ps.length - j) (i0 + 1) ?_ (sim_of (rn := []) rfl ?_ ?_) ?_
  · exact ⟨by omega, by omega, by omega⟩
  · ((repeat' (first | exact trivial | apply And.intro)) <;> (first | rfl | (exact vintS (by rw [hc1])) | exact leaf_E57))
  · ((repeat' (first | exact trivial | apply And.intro)) <;> ((first | refine ⟨_, _, rfl, rfl, ?_⟩ ); first | rfl | (first | (rw [hd1]; rfl) | rfl)))
  rintro j ⟨hj, hij, hcj⟩
  have hxl := dlQ_len keep ps j
  have hsp := dlQ_spec keep ps j hj
  conv => whnf
  repeat (first | (refine go_E57 ?_; conv => whnf) | (refine lk_E57 ?_; conv => whnf))
  cases h1 : decide ((j : Int) < (ps.length : Int))
  · have hjn : j = ps.length := by simp at h1; omega
    subst hjn
    rw [List.take_length] at hcj
    rw [List.take_length]
    have hfl := List.length_filter_le keep ps
    conv => whnf
    repeat (first | (refine go_E57 ?_; conv => whnf) | (refine lk_E57 ?_; conv => whnf))
    refine ⟨?_, ?_⟩
    · show 0 + (((ps.filter keep).length : Nat) : Int).toNat * 2 + (rep ((ps.length : Int).toNat - ((ps.filter keep).length : Int).toNat) [Value.int .i8 0, Value.int .i8 0]).length ≤ (pqC (dlQ keep ps ps.length)).length
      rw [rep_length, pqC_len, dlQ_len]
      simp
      omega
    conv => whnf
    repeat (first | (refine go_E57 ?_; conv => whnf) | (refine lk_E57 ?_; conv => whnf))
    refine ⟨[], _, rfl, rfl, rfl, ?_, ⟨⟨_, rfl, ?_⟩, ⟨_, rfl, rfl⟩, trivial⟩, rfl⟩
    · exact congrArg (D.slc false 2 (lentId 0) 0) (by show _ = (((ps.filter keep).length : Nat) : Int).toNat - 0; omega)
    · exact congrArg (fun l => some (D.v (.agg ⟨l⟩))) (kq_end (keep := keep) (ps := ps) (o := 0 + (((ps.filter keep).length : Nat) : Int).toNat * 2) (n := (ps.length : Int).toNat - (((ps.filter keep).length : Nat) : Int).toNat) (by omega) rfl (by omega))
  have hjn : j < ps.length := by simpa using h1
  have hat := dlQ_at (keep := keep) hjn
  have eL : List.take ti56.size (List.drop (0 + (j : Int).toNat * ti56.size) ({ toList := pqC (dlQ keep ps j) } : Array Value).toList) = [.int .i8 (px ps j).1, .int .i8 (px ps j).2] := by
    rw [← hat, show 0 + (j : Int).toNat * ti56.size = j * 2 by simp]
    exact pqC_sub (by omega)
  have sG := hg _ (px_mem hjn)
  unfold pq1 at sG
  conv => whnf
  repeat (first | (refine go_E57 ?_; conv => whnf) | (refine lk_E57 ?_; conv => whnf))
  rw [eL]
  conv => whnf
  repeat (first | (refine go_E57 ?_; conv => whnf) | (refine lk_E57 ?_; conv => whnf))
  first | refine ⟨_, _, rfl, sc_E57 (sG), ?_⟩ | refine .inl ⟨_, _, rfl, sc_E57 (sG), ?_⟩
  conv => whnf
  repeat (first | (refine go_E57 ?_; conv => whnf) | (refine lk_E57 ?_; conv => whnf))
  cases hk : keep (px ps j)
  · conv => whnf
    repeat (first | (refine go_E57 ?_; conv => whnf) | (refine lk_E57 ?_; conv => whnf))
    have e := kq_no hjn hk
    refine ⟨j + 1, ?_, ?_, sim_of (rn := []) rfl ?_ ?_⟩
    · (dsimp only; omega)
    · exact ⟨by omega, by omega, by rw [e]; omega⟩
    · ((repeat' (first | exact trivial | apply And.intro)) <;> (first | rfl | (exact vintS (by rw [e])) | exact leaf_E57))
    · ((repeat' (first | exact trivial | apply And.intro)) <;> ((first | refine ⟨_, _, rfl, rfl, ?_⟩ ); first | rfl | (exact congrArg (fun l => some (D.v (.agg ⟨pqC l⟩))) (by simp only [dlQ, hk]; rfl))))
  · have e := kq_yes hjn hk
    have e2 : dlQ keep ps (j + 1) = (dlQ keep ps j).set ((ps.take j).filter keep).length (px ps j) := by simp only [dlQ, hk, if_true]
    conv => whnf
    repeat (first | (refine go_E57 ?_; conv => whnf) | (refine lk_E57 ?_; conv => whnf))
    refine ⟨j + 1, ?_, ?_, sim_of (rn := []) rfl ?_ ?_⟩
    · (dsimp only; omega)
    · exact ⟨by omega, by omega, by rw [e, List.length_append, List.length_singleton]; omega⟩
    · ((repeat' (first | exact trivial | apply And.intro)) <;> (first | rfl | (first | exact vintS (by rw [e, List.length_append, List.length_singleton, w64 (by omega) (by omega)]; push_cast; rfl) | exact vintS (by rw [e, List.length_append, List.length_singleton, w64 (by omega) (by omega)]; omega)) | exact leaf_E57))
    · ((repeat' (first | exact trivial | apply And.intro)) <;> ((first | refine ⟨_, _, rfl, rfl, ?_⟩ ); first | rfl | (exact cset ((pq_set (ps := dlQ keep ps j) (i := ((ps.take j).filter keep).length) (o := 0 + (((ps.take j).filter keep).length : Int).toNat * 2) (q := px ps j) (by omega) (by simp)).trans (congrArg pqC e2.symm)))))
end Go.Proofs.Ytejncabmppobfaa
/- Maps as lists of entries: what is found in them: plain. -/
set_option linter.unusedVariables false
set_option linter.unusedSimpArgs false
namespace Go.V
theorem findK_set {k key : Int × Int} {x : Value} : ∀ (kvs : List ((Int × Int) × Value)), findK k (setK key x kvs) = if k = key then some x else findK k kvs
  | [] => by
    simp only [setK, findK]
    cases h : keyEq k key <;> simp only [cond_true, cond_false]
    · rw [if_neg]; rintro rfl; rw [keyEq_iff.2 rfl] at h; cases h
    · rw [if_pos (keyEq_iff.1 h).symm]
  | p :: r => by
    have ih := findK_set (k := k) (key := key) (x := x) r
    simp only [setK]
    cases h : keyEq key p.1 <;> simp only [cond_true, cond_false, findK]
    · rw [ih]
      cases h2 : keyEq k p.1 <;> simp only [cond_true, cond_false]
      · rw [if_neg]; rintro rfl; rw [h] at h2; cases h2
    · rw [keyEq_iff] at h
      cases h2 : keyEq k p.1 <;> simp only [cond_true, cond_false]
      · rw [if_neg]; rintro rfl; rw [h, keyEq_iff.2 rfl] at h2; cases h2
      · rw [keyEq_iff] at h2; rw [if_pos (by rw [← h2, h])]
theorem put_ent {key : Int × Int} {z x : Value} {kvs : List ((Int × Int) × Value)} : putE (idxK key kvs) x (entK key z kvs) = setK key x kvs := by
  cases h : findK key kvs with
  | some v => rw [entK_some h, setK_some h]
  | none =>
    rw [entK_none h, setK_none h, idxK_none h]
    have : ∀ (l : List ((Int × Int) × Value)), putE l.length x (l ++ [(key, z)]) = l ++ [(key, x)] := by
      intro l
      induction l with
      | nil => rfl
      | cons p r ih => simp [putE, ih]
    exact this kvs
theorem ent_len {key : Int × Int} {z : Value} {kvs : List ((Int × Int) × Value)} : idxK key kvs < (entK key z kvs).length := by
  cases h : findK key kvs with
  | some v => rw [entK_some h]; exact (List.getElem?_eq_some_iff.1 (findK_get h)).1
  | none => rw [entK_none h, idxK_none h]; simp
theorem find_ent {key : Int × Int} {z : Value} {kvs : List ((Int × Int) × Value)} : (findK key (entK key z kvs)).getD z = (findK key kvs).getD z := by
  cases h : findK key kvs with
  | some v => rw [entK_some h, h]
  | none =>
    rw [entK_none h]
    have : ∀ (l : List ((Int × Int) × Value)), findK key l = none → findK key (l ++ [(key, z)]) = some z := by
      intro l
      induction l with
      | nil => intro _; simp [findK, keyEq_iff.2]
      | cons p r ih =>
        intro hl
        simp only [findK, List.cons_append] at hl ⊢
        cases hk : keyEq key p.1 <;> simp only [hk, cond_true, cond_false] at hl ⊢
        · exact ih hl
        · cases hl
    rw [this kvs h]; rfl
def KeysOk (kvs : List ((Int × Int) × Value)) : Prop := (kvs.map (·.1)).Nodup
theorem findK_mem {key : Int × Int} : ∀ {kvs : List ((Int × Int) × Value)}, findK key kvs = none → key ∉ kvs.map (·.1)
  | [], _ => by simp
  | p :: r, h => by
    simp only [findK] at h
    cases hk : keyEq key p.1 <;> simp only [hk, cond_true, cond_false] at h
    · simp only [List.map_cons, List.mem_cons, not_or]
      refine ⟨?_, findK_mem h⟩
      rintro rfl; rw [keyEq_iff.2 rfl] at hk; cases hk
    · cases h
theorem keys_put {x : Value} : ∀ (kvs : List ((Int × Int) × Value)) (i : Nat), (putE i x kvs).map (·.1) = kvs.map (·.1)
  | [], i => by cases i <;> rfl
  | p :: r, 0 => rfl
  | p :: r, i + 1 => by simp [putE, keys_put r i]
theorem KeysOk.set {key : Int × Int} {x : Value} {kvs : List ((Int × Int) × Value)} (h : KeysOk kvs) : KeysOk (setK key x kvs) := by
  unfold KeysOk at *
  cases hf : findK key kvs with
  | some v => rw [setK_some hf, keys_put]; exact h
  | none =>
    rw [setK_none hf, List.map_append, List.nodup_append]
    refine ⟨h, by simp, ?_⟩
    intro a ha b hb
    simp at hb
    rintro rfl
    exact findK_mem hf (hb ▸ ha)
theorem KeysOk.find : ∀ {kvs : List ((Int × Int) × Value)} (_ : KeysOk kvs) {p : (Int × Int) × Value}, p ∈ kvs → findK p.1 kvs = some p.2
  | [], _, p, hp => by simp at hp
  | q :: r, h, p, hp => by
    unfold KeysOk at h
    simp only [List.map_cons, List.nodup_cons] at h
    simp only [findK]
    rcases List.mem_cons.1 hp with rfl | hp
    · rw [keyEq_iff.2 rfl]; rfl
    · cases hk : keyEq p.1 q.1 <;> simp only [cond_true, cond_false]
      · exact KeysOk.find h.2 hp
      · rw [keyEq_iff] at hk
        exact absurd (List.mem_map_of_mem (f := (·.1)) hp) (by rw [← hk]; exact h.1)
/-- How often a place has been met. -/
def cntQ (ps : List (Int × Int)) (i : Nat) (key : Int × Int) : Nat := ((ps.take i).filter fun x => x == key).length
theorem cntQ_next {ps : List (Int × Int)} {i : Nat} (hi : i < ps.length) (key : Int × Int) : cntQ ps (i + 1) key = cntQ ps i key + (if px ps i = key then 1 else 0) := by
  unfold cntQ
  rw [take_px hi, List.filter_append]
  by_cases h : px ps i = key
  · simp [h]
  · simp [h]
theorem cntQ_le (ps : List (Int × Int)) (i : Nat) (key : Int × Int) : cntQ ps i key ≤ i := by
  unfold cntQ
  exact Nat.le_trans (List.length_filter_le _ _) (by simp; omega)
/-- The map of numbers. -/
def tmX (ps : List (Int × Int)) : Nat → List ((Int × Int) × Value)
  | 0 => []
  | i + 1 => setK (px ps i) (.int .i64 (cntQ ps (i + 1) (px ps i))) (tmX ps i)
@[irreducible] def tmL (ps : List (Int × Int)) (i : Nat) : List ((Int × Int) × Value) := tmX ps i
theorem tmL_zero (ps : List (Int × Int)) : tmL ps 0 = [] := by unfold tmL; rfl
theorem tmL_next (ps : List (Int × Int)) (i : Nat) : tmL ps (i + 1) = setK (px ps i) (.int .i64 (cntQ ps (i + 1) (px ps i))) (tmL ps i) := by unfold tmL; rfl
theorem tm_find (ps : List (Int × Int)) : ∀ i, i ≤ ps.length → (KeysOk (tmL ps i) ∧ ∀ key, findK key (tmL ps i) = if cntQ ps i key = 0 then none else some (.int .i64 (cntQ ps i key))) := by
  intro i
  induction i with
  | zero => intro _; rw [tmL_zero]; exact ⟨by simp [KeysOk], fun key => by simp [findK, cntQ]⟩
  | succ i ih =>
    intro hi
    obtain ⟨h1, h2⟩ := ih (by omega)
    rw [tmL_next]
    refine ⟨h1.set, fun key => ?_⟩
    rw [findK_set, h2, cntQ_next (by omega) key]
    by_cases he : key = px ps i
    · subst he
      rw [if_pos rfl, if_pos rfl, if_neg (by omega), cntQ_next (by omega), if_pos rfl]
    · rw [if_neg he, if_neg (c := px ps i = key) (fun e => he e.symm), Nat.add_zero]
theorem tm_getD {ps : List (Int × Int)} {i : Nat} (hi : i ≤ ps.length) (key : Int × Int) : (findK key (tmL ps i)).getD (.int .i64 0) = .int .i64 (cntQ ps i key) := by
  rw [(tm_find ps i hi).2]
  split
  · rename_i h; rw [h]; rfl
  · rfl
theorem tm_step {ps : List (Int × Int)} {i : Nat} (hi : i < ps.length) {x : Int} (hx : x = (cntQ ps i (px ps i) : Int) + 1) {n : Int} (hn : n = (idxK (px ps i) (tmL ps i) : Nat)) : putE n.toNat (.int .i64 x) (entK (px ps i) (.int .i64 0) (tmL ps i)) = tmL ps (i + 1) := by
  subst hn hx
  rw [Int.toNat_natCast, put_ent, tmL_next, cntQ_next hi, if_pos rfl]; push_cast; rfl
theorem tm_get {ps : List (Int × Int)} {j : Nat} {key : Int × Int} {v : Value} (h : (tmL ps ps.length)[j]? = some (key, v)) : v = .int .i64 (cntQ ps ps.length key) ∧ key ∈ ps := by
  obtain ⟨h1, h2⟩ := tm_find ps ps.length (Nat.le_refl _)
  have := h1.find (List.mem_of_getElem? h)
  rw [h2] at this
  split at this
  · cases this
  · rename_i hne
    refine ⟨(Option.some.inj this).symm, ?_⟩
    unfold cntQ at hne
    rw [List.take_length] at hne
    have : (ps.filter fun x => x == key) ≠ [] := fun e => hne (by rw [e]; rfl)
    obtain ⟨x, hx⟩ := List.exists_mem_of_ne_nil _ this
    rw [List.mem_filter] at hx
    have := hx.2
    simp at this
    rw [← this]; exact hx.1
/-- What has been found out of the places that have been gone through. -/
structure NdOk (f : Int × Int → Bool) (keys : List (Int × Int)) (seen : List Nat) (kvs : List ((Int × Int) × Value)) : Prop where
  nodup : seen.Nodup
  small : ∀ j ∈ seen, j < keys.length
  find : ∀ j ∈ seen, ∀ q, keys[j]? = some q → findK q kvs = some (.bool (f q))
theorem NdOk.next {f : Int × Int → Bool} {keys : List (Int × Int)} {seen : List Nat} {kvs : List ((Int × Int) × Value)} (h : NdOk f keys seen kvs) {j : Nat} {q : Int × Int} (hj : j ∉ seen) (hq : keys[j]? = some q) : NdOk f keys (seen ++ [j]) (setK q (.bool (f q)) kvs) := by
  refine ⟨?_, fun i hi => ?_, fun i hi p hp => ?_⟩
  · rw [List.nodup_append]
    refine ⟨h.nodup, by simp, ?_⟩
    rintro a ha b hb rfl
    simp at hb
    subst hb
    exact hj ha
  · rcases List.mem_append.1 hi with hi | hi
    · exact h.small i hi
    · simp at hi; subst hi; exact (List.getElem?_eq_some_iff.1 hq).1
  · rw [findK_set]
    split
    · rename_i e; rw [e]
    · rename_i hne
      rcases List.mem_append.1 hi with hi | hi
      · exact h.find i hi p hp
      · simp at hi; subst hi; rw [hq] at hp; exact absurd (Option.some.inj hp).symm hne
theorem nodup_bound : ∀ {l : List Nat} {n : Nat}, l.Nodup → (∀ j ∈ l, j < n) → l.length ≤ n := by
  intro l n h1 h2
  have : l.length ≤ (List.range n).length := h1.length_le_of_subset fun j hj => by simpa using h2 j hj
  simpa using this
end Go.V
