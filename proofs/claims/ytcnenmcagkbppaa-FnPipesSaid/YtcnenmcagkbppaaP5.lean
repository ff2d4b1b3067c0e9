import Derived.Test.YtcnenmcagkbppaaP4
import Derived.Test.YtcnenmcagkbppaaW7
set_option linter.unusedVariables false
set_option linter.unusedSimpArgs false
/- Gutters that slope to pipes: the program's side, begun. -/
set_option linter.unusedVariables false
set_option linter.unusedSimpArgs false
namespace Go.V
/- Words for the walks of this text: their default arguments are tried where they are used. -/
theorem go_E30 {P Q : Prop} (k : Q) (h : P := by first | exact Nat.le_of_ble_eq_true rfl | exact trivial | exact rfl | decide | omega | (simp [splice]; done) | (constructor <;> omega) | (simp [splice]; omega)) : P ∧ Q := ⟨h, k⟩
theorem lk_E30 {α : Type} {o : Option α} {K : α → Prop} {x : α} (k : K x) (h : o = some x := by first | exact hDA (by omega) | exact hDA' (by omega) | exact gutA (by omega) | exact pipeA (by omega) | exact pipeB (by omega) | exact pipeSA (by omega) | exact pipeSB (by omega) | exact intA (by omega) | exact intA' (by omega)) : optK o K := optK_of h k
theorem sc_E30 {P : Program} {g : FuncId} {args args' : List D} {res : D} (h : Sat P g args res) (e : args' = args := by repeat (first | rfl | exact vfull (by first | (simp [splice]; done) | (simp [splice]; omega)) | exact rfull (by first | (simp [splice]; done) | (simp [splice]; omega)) | exact vpipe (by simp; done) (by omega) | exact vsplice (by simp) (by simp) | refine ceq ?_ ?_ | refine Eq.trans (vsplice (by first | (simp; done) | (simp; omega)) (by first | (simp; done) | (simp; omega))) ?_)) : Sat P g args' res := Sat.of_eq h e
theorem leaf_E30 {P : Prop} (h : P := by first | rfl | exact succ8 (by omega) | exact succ64 (by omega) | exact CapOk.fn (by assumption) _ _ | exact vintS (by omega) | exact vintS (by rw [w64 (by omega) (by omega)]; omega) | exact vintS (by rw [w8 (by omega) (by omega)]; omega) | exact vslcS (by omega) | exact vslcS (by simp)) : P := h
theorem hold_E30 {P : Prop} (h : P := by (repeat' (first | exact trivial | apply And.intro)) <;> (first | rfl | exact succ8 (by omega) | exact succ64 (by omega) | exact CapOk.fn (by assumption) _ _ | exact vintS (by omega) | exact vintS (by rw [w64 (by omega) (by omega)]; omega) | exact vintS (by rw [w8 (by omega) (by omega)]; omega) | exact vslcS (by omega) | exact vslcS (by simp))) : P := h
theorem okt_E30 {P : Prop} (h : P := by first | omega | (dsimp only; omega) | ((repeat' apply And.intro) <;> omega) | (dsimp only; (repeat' apply And.intro) <;> omega) | trivial) : P := h
end Go.V
namespace Go.V
@[irreducible] def i8L (xs : List Int) : List Value := xs.map (Value.int .i8)
theorem i8L_def (xs : List Int) : i8L xs = xs.map (Value.int .i8) := by unfold i8L; rfl
@[simp] theorem i8L_len (xs : List Int) : (i8L xs).length = xs.length := by simp [i8L_def]
theorem i8L_nil : i8L [] = [] := by simp [i8L_def]
theorem i8L_snoc (xs : List Int) (x : Int) : i8L xs ++ [.int .i8 x] = i8L (xs ++ [x]) := by simp [i8L_def]
def i8D (m : Bool) (xs : List Int) : D := .row m 1 (.v (.agg ⟨i8L xs⟩)) xs.length
def farL (ps : List (Int × Int)) (c k : Nat) : List Int := (ps.take k).map fun q => farI c q.1
theorem farL_next {ps : List (Int × Int)} {c k : Nat} (h : k < ps.length) : farL ps c (k + 1) = farL ps c k ++ [farI c (px ps k).1] := by
  unfold farL px
  rw [List.take_add_one, List.map_append, List.getD_eq_getElem?_getD]
  simp [h]
theorem farL_len {ps : List (Int × Int)} {c k : Nat} (h : k ≤ ps.length) : (farL ps c k).length = k := by unfold farL; simp; omega
end Go.V
namespace Go.Proofs.Ytcnenmcagkbppaa
open Go.V
theorem slope1_sat (q : Int × Int) (hq : 0 ≤ q.1 ∧ q.1 ≤ 17) (c : Nat) (hc : c < 17) : Sat Try.prog 60 [pipeD q, .ref false (.v (.agg ⟨[.int .i8 c]⟩)) 0] (.v (.int .i8 (farI c q.1))) := by
  refine sat_of_wp hMix tOk Try.func60 rfl rfl Try.ntmps60 rfl rfl Try.results60 (by kernel_rfl) ?_
  conv => whnf
  repeat (first | (refine go_E30 ?_; conv => whnf) | (refine lk_E30 ?_; conv => whnf))
  rw [show IntKind.i8.wrap ((c : Int) - q.1) = (c : Int) - q.1 from w8 (by omega) (by omega), show IntKind.i8.wrap (q.1 - (c : Int)) = q.1 - (c : Int) from w8 (by omega) (by omega),
    show (if (c : Int) - q.1 > q.1 - (c : Int) then (c : Int) - q.1 else q.1 - (c : Int)) = farI c q.1 by unfold farI; split <;> split <;> omega]
  first | refine ⟨rfl, _, rfl, ?_⟩ | refine ⟨_, rfl, ?_⟩
  rfl
theorem eachP8_sat (ps : List (Int × Int)) (hl : ps.length ≤ 4) (hp : ∀ i, i < ps.length → 0 ≤ (px ps i).1 ∧ (px ps i).1 ≤ 17) (c : Nat) (hc : c < 17) (m : Bool) :
    Sat Try.prog 59 [pipesD m ps, .fn (.func 60) [] [.ref false (.v (.agg ⟨[.int .i8 c]⟩)) 0]] (i8D true (farL ps c ps.length)) := by
  have hcap : CapOk [.ref false (.v (.agg ⟨[.int .i8 (c : Int)]⟩)) 0] := ⟨fun _ => rfl, fun _ => rfl⟩
  have hs := fun i h => slope1_sat (px ps i) h c hc
  generalize hcs : [D.ref false (.v (.agg ⟨[.int .i8 (c : Int)]⟩)) 0] = caps at *
  refine satN_of_wp hMix tOk Try.func59 rfl rfl Try.ntmps59 rfl rfl Try.results59 (by kernel_rfl) ?_
  conv => whnf
  repeat (first | (refine go_E30 ?_; conv => whnf) | (refine lk_E30 ?_; conv => whnf))
  refine loop_rule (α := Nat) (fun i => [(1, .fn (.func 60) [] caps), (5, .slc true 1 (19, 0, 0) 0 (farL ps c i).length), (8, pipesD m ps), (9, .v (.int .i64 ps.length)), (10, .v (.int .i64 i))]) (fun i => [((19, 0, 0), .v (.agg ⟨i8L (farL ps c i)⟩))]) (fun i => i ≤ ps.length) (fun i => ps.length - i) (0) ?_ (sim_of (rn := [((19, 0, 0), nilId)]) rfl ?_ ?_) ?_
  · exact okt_E30
  · exact hold_E30
  · ((repeat' (first | exact trivial | apply And.intro)) <;> ((first | refine ⟨_, _, rfl, rfl, ?_⟩ ); first | rfl | ((exact cset (show [] = i8L [] from i8L_nil.symm)))))
  intro i hi
  have hml := farL_len (c := c) hi
  conv => whnf
  repeat (first | (refine go_E30 ?_; conv => whnf) | (refine lk_E30 ?_; conv => whnf))
  cases h : decide ((i : Int) < (ps.length : Int))
  · have hin : i = ps.length := by simp at h; omega
    subst hin
    conv => whnf
    repeat (first | (refine go_E30 ?_; conv => whnf) | (refine lk_E30 ?_; conv => whnf))
    first | refine ⟨rfl, _, rfl, [_], rfl, ?_, rfl⟩ | refine ⟨_, rfl, [_], rfl, ?_, rfl⟩
    ((repeat' (first | exact trivial | apply And.intro)) <;> first | exact .inl rfl | exact .inr ⟨rfl, rfl⟩)
  have hin : i < ps.length := by simpa using h
  have hpi := hp i hin
  have hfn := farL_next (c := c) hin
  conv => whnf
  repeat (first | (refine go_E30 ?_; conv => whnf) | (refine lk_E30 ?_; conv => whnf))
  first | refine ⟨_, _, CapOk.one (by assumption) rfl, sc_E30 (hs i (by omega)), ?_⟩ | refine .inl ⟨_, _, CapOk.one (by assumption) rfl, sc_E30 (hs i (by omega)), ?_⟩
  conv => whnf
  repeat (first | (refine go_E30 ?_; conv => whnf) | (refine lk_E30 ?_; conv => whnf))
  have e2 : i8L (farL ps c i) ++ [.int .i8 (farI c (px ps i).1)] = i8L (farL ps c (i + 1)) := by rw [i8L_snoc, hfn]
  have hml' : (farL ps c (i + 1)).length = (farL ps c i).length + 1 := by rw [hfn]; simp
  refine ⟨i + 1, ?_, ?_, sim_of (rn := [((19, 0, 0), (19, 1, 0))]) rfl ?_ ?_⟩
  · (dsimp only; omega)
  · exact okt_E30
  · ((repeat' (first | exact trivial | apply And.intro)) <;> (first | rfl | (exact vslcS hml') | exact leaf_E30))
  · ((repeat' (first | exact trivial | apply And.intro)) <;> ((first | refine ⟨_, _, rfl, rfl, ?_⟩ ); first | rfl | (exact cset e2)))
end Go.Proofs.Ytcnenmcagkbppaa
/- The least of some small numbers. -/
set_option linter.unusedVariables false
set_option linter.unusedSimpArgs false
namespace Go.V
/- Words for the walks of this text: their default arguments are tried where they are used. -/
theorem go_E31 {P Q : Prop} (k : Q) (h : P := by first | exact Nat.le_of_ble_eq_true rfl | exact trivial | exact rfl | decide | omega | (simp [splice]; done) | (constructor <;> omega) | (simp [splice]; omega)) : P ∧ Q := ⟨h, k⟩
theorem lk_E31 {α : Type} {o : Option α} {K : α → Prop} {x : α} (k : K x) (h : o = some x := by first | exact i8A (by omega) | exact i8A' (by omega)) : optK o K := optK_of h k
theorem leaf_E31 {P : Prop} (h : P := by first | rfl | exact succ8 (by omega) | exact succ64 (by omega) | exact CapOk.fn (by assumption) _ _ | exact vintS (by omega) | exact vintS (by rw [w64 (by omega) (by omega)]; omega) | exact vintS (by rw [w8 (by omega) (by omega)]; omega) | exact vslcS (by omega) | exact vslcS (by simp)) : P := h
theorem hold_E31 {P : Prop} (h : P := by (repeat' (first | exact trivial | apply And.intro)) <;> (first | rfl | exact succ8 (by omega) | exact succ64 (by omega) | exact CapOk.fn (by assumption) _ _ | exact vintS (by omega) | exact vintS (by rw [w64 (by omega) (by omega)]; omega) | exact vintS (by rw [w8 (by omega) (by omega)]; omega) | exact vslcS (by omega) | exact vslcS (by simp))) : P := h
theorem okt_E31 {P : Prop} (h : P := by first | omega | (dsimp only; omega) | ((repeat' apply And.intro) <;> omega) | (dsimp only; (repeat' apply And.intro) <;> omega) | trivial) : P := h
end Go.V
namespace Go.V
theorem i8N {xs : List Int} {i o : Nat} (ho : o = i) (h : i < xs.length) : nth (i8L xs) o = some (.int .i8 (ix xs i)) := by
  subst ho
  rw [nth_eq, i8L_def, List.getElem?_map]
  unfold ix
  rw [List.getD_eq_getElem?_getD]
  simp [h]
theorem i8A {xs : List Int} {i : Nat} (h : i < xs.length) : nth (i8L xs) (0 + (i : Int).toNat * 1) = some (.int .i8 (ix xs i)) := i8N (by simp) h
theorem i8A' {xs : List Int} {i : Nat} (h : i < xs.length) : nth (i8L xs) ((i : Int).toNat * 1) = some (.int .i8 (ix xs i)) := i8N (by simp) h
end Go.V
namespace Go.Proofs.Ytcnenmcagkbppaa
open Go.V
theorem min8_sat (xs : List Int) (hl : xs.length ≤ 1048576) (hp : 0 < xs.length) (m : Bool) : Sat Try.prog 58 [i8D m xs] (.v (.int .i8 (ix xs (am (ix xs) (xs.length - 1))))) := by
  have h0 : ¬ (xs.length : Int) < 1 := by omega
  refine sat_of_wp hMix tOk Try.func58 rfl rfl Try.ntmps58 rfl rfl Try.results58 (by kernel_rfl) ?_
  conv => whnf
  repeat (first | (refine go_E31 ?_; conv => whnf) | (refine lk_E31 ?_; conv => whnf))
  cases h1 : decide ((xs.length : Int) < 1)
  case true => exact absurd (by simpa using h1) h0
  conv => whnf
  repeat (first | (refine go_E31 ?_; conv => whnf) | (refine lk_E31 ?_; conv => whnf))
  refine loop_rule (α := Nat) (fun i => [(0, i8D m xs), (3, .v (.int .i8 (ix xs (am (ix xs) i)))), (4, .v (.int .i64 ((i + 1 : Nat) : Int)))]) (fun i => []) (fun i => i + 1 ≤ xs.length) (fun i => xs.length - i) (0) ?_ (sim_of (rn := []) rfl ?_ ?_) ?_
  · exact okt_E31
  · exact hold_E31
  · ((repeat' (first | exact trivial | apply And.intro)) <;> ((first | refine ⟨_, _, rfl, rfl, ?_⟩ ); rfl))
  intro i hi
  conv => whnf
  repeat (first | (refine go_E31 ?_; conv => whnf) | (refine lk_E31 ?_; conv => whnf))
  cases h : decide (((i + 1 : Nat) : Int) < (xs.length : Int))
  · have hin : i = xs.length - 1 := by simp at h; omega
    subst hin
    conv => whnf
    repeat (first | (refine go_E31 ?_; conv => whnf) | (refine lk_E31 ?_; conv => whnf))
    first | refine ⟨rfl, _, rfl, ?_⟩ | refine ⟨_, rfl, ?_⟩
    rfl
  have hin : i + 1 < xs.length := by simp at h; omega
  have e1 : ix xs (am (ix xs) (i + 1)) = (if ix xs (i + 1) < ix xs (am (ix xs) i) then ix xs (i + 1) else ix xs (am (ix xs) i)) := by
    simp only [am]; split <;> rfl
  conv => whnf
  repeat (first | (refine go_E31 ?_; conv => whnf) | (refine lk_E31 ?_; conv => whnf))
  refine ⟨i + 1, ?_, ?_, sim_of (rn := []) rfl ?_ ?_⟩
  · (dsimp only; omega)
  · exact okt_E31
  · ((repeat' (first | exact trivial | apply And.intro)) <;> (first | rfl | (exact vintS e1) | exact leaf_E31))
  · ((repeat' (first | exact trivial | apply And.intro)) <;> ((first | refine ⟨_, _, rfl, rfl, ?_⟩ ); rfl))
end Go.Proofs.Ytcnenmcagkbppaa
/- Gutters that are drawn from bytes: the contract of the draw. -/
set_option linter.unusedVariables false
set_option linter.unusedSimpArgs false
set_option maxRecDepth 4000
namespace Go.V
/- Words for the walks of this text: their default arguments are tried where they are used. -/
theorem go_E40 {P Q : Prop} (k : Q) (h : P := by first | exact Nat.le_of_ble_eq_true rfl | exact gutE_lt (by omega) | exact trivial | exact rfl | decide | omega | (simp [splice]; done) | (constructor <;> omega) | (simp [splice]; omega)) : P ∧ Q := ⟨h, k⟩
theorem lk_E40 {α : Type} {o : Option α} {K : α → Prop} {x : α} (k : K x) (h : o = some x := by first | exact u8A (by omega) | exact u8A' (by omega) | exact hDA (by omega) | exact hDA' (by omega) | exact gutA (by omega) | exact pipeA (by omega) | exact pipeB (by omega) | exact pipeSA (by omega) | exact pipeSB (by omega) | exact intA (by omega) | exact intA' (by omega)) : optK o K := optK_of h k
theorem sm_E40 {low : Bool} {P : Program} {g : FuncId} {args args' ms ms0 : List D} {res : D} {ms' : List (Option D)} {news : List D} (h : SatB low P g args ms res ms' news) (e : args' = args := by repeat (first | rfl | exact vfull (by first | (simp [splice]; done) | (simp [splice]; omega)) | exact rfull (by first | (simp [splice]; done) | (simp [splice]; omega)) | exact vpipe (by simp; done) (by omega) | exact vsplice (by simp) (by simp) | refine ceq ?_ ?_ | refine Eq.trans (vsplice (by first | (simp; done) | (simp; omega)) (by first | (simp; done) | (simp; omega))) ?_)) (e2 : ms0 = ms := by repeat (first | rfl | exact vfull (by first | (simp [splice]; done) | (simp [splice]; omega)) | exact rfull (by first | (simp [splice]; done) | (simp [splice]; omega)) | exact vpipe (by simp; done) (by omega) | exact vsplice (by simp) (by simp) | refine ceq ?_ ?_ | refine Eq.trans (vsplice (by first | (simp; done) | (simp; omega)) (by first | (simp; done) | (simp; omega))) ?_)) : SatB low P g args' ms0 res ms' news := SatB.of_eq h e e2
theorem hold_E40 {P : Prop} (h : P := by (repeat' (first | exact trivial | apply And.intro)) <;> (first | rfl | exact succ8 (by omega) | exact succ64 (by omega) | exact CapOk.fn (by assumption) _ _ | exact vintS (by omega) | exact vintS (by rw [w64 (by omega) (by omega)]; omega) | exact vintS (by rw [w8 (by omega) (by omega)]; omega) | exact vslcS (by omega) | exact vslcS (by simp))) : P := h
theorem okt_E40 {P : Prop} (h : P := by first | omega | (dsimp only; omega) | ((repeat' apply And.intro) <;> omega) | (dsimp only; (repeat' apply And.intro) <;> omega) | trivial) : P := h
end Go.V
namespace Go.V
theorem gwP_full (xs : List Int) {j : Nat} (h : 4 ≤ (gwP xs j).1.length) : ∀ {m : Nat}, j ≤ m → gwP xs m = gwP xs j := by
  intro m hm
  obtain ⟨d, rfl⟩ : ∃ d, m = j + d := ⟨m - j, by omega⟩
  induction d with
  | zero => rfl
  | succ d ih =>
    have ih := ih (by omega)
    show gwP xs (j + d + 1) = _
    rw [gwP, ih, if_neg (by omega)]
theorem pipesC_snoc (ps : List (Int × Int)) (q : Int × Int) : pipesC (ps ++ [q]) = pipesC ps ++ [.int .i8 q.1, .int .i16 q.2] := by rw [pipesC_append, pipesC_cons, pipesC_nil]
theorem wu32 {n : Int} (h1 : 0 ≤ n) (h2 : n ≤ 4294967295) : IntKind.u32.wrap n = n := by
  simp [IntKind.wrap, IntKind.bits, IntKind.signed]; omega
theorem orLeaf {a k : Nat} (hk : k < 17) (ha : a < 2 ^ 17) : IntKind.u32.wrap ((BitVec.ofInt IntKind.u32.bits (a : Int) ||| BitVec.ofInt IntKind.u32.bits (IntKind.u32.wrap (1 * 2 ^ min (IntKind.u64.wrap (k : Int)).toNat IntKind.u32.bits))).toNat : Int) = ((a ||| 2 ^ k : Nat) : Int) := by
  have hp : 2 ^ k < 2 ^ 17 := Nat.pow_lt_pow_right (by omega) hk
  have hor : a ||| 2 ^ k < 2 ^ 17 := Nat.or_lt_two_pow ha hp
  have hb : IntKind.u32.bits = 32 := rfl
  rw [hb, wu64 (n := (k : Int)) (by omega) (by omega), show ((k : Int)).toNat = k by omega, show min k 32 = k by omega,
    show (1 : Int) * 2 ^ k = ((2 ^ k : Nat) : Int) by rw [Int.one_mul]; push_cast; rfl]
  generalize 2 ^ k = q at *
  rw [wu32 (n := (q : Int)) (by omega) (by omega),
    BitVec.ofInt_natCast, BitVec.ofInt_natCast, BitVec.toNat_or, BitVec.toNat_ofNat, BitVec.toNat_ofNat,
    Nat.mod_eq_of_lt (by omega), Nat.mod_eq_of_lt (by omega)]
  exact wu32 (by omega) (by omega)
/-- A block's content, cell by cell. -/
theorem split_sim [Globs] {s : St} {id : Id} {xs : List Value} (hm : s.m id = some (.v (.agg ⟨xs⟩))) : Sim s (s.setm id (.agg (xs.map .v))) := by
  intro P T n w0 bs l0 a w loc h
  have live : ∀ j c, (s.setm id (.agg (xs.map .v))).m j = some c → ∃ c', s.m j = some c' := by
    intro j c hj
    simp only [St.setm] at hj
    rw [updI_eq] at hj
    by_cases e : j = id
    · subst e; exact ⟨_, hm⟩
    · rw [if_neg e] at hj; exact ⟨_, hj⟩
  refine ⟨loc, ⟨h.types, h.low, h.solo, h.size, h.small, h.defers, h.same, h.tmp, ?_, h.cnt, h.range, ?_, h.lent, ?_, h.glob⟩⟩
  · intro j c hj
    simp only [St.setm] at hj
    rw [updI_eq] at hj
    by_cases e : j = id
    · subst e
      rw [if_pos rfl] at hj
      simp only [Option.some.injEq] at hj
      subst hj
      obtain ⟨l, ys, g1, g2, g3⟩ := h.mem _ _ hm
      refine ⟨l, ys, g1, ?_, g3⟩
      simp only [Rep, Value.agg.injEq, Array.mk.injEq] at g2 ⊢
      obtain ⟨rfl, hf⟩ := g2
      exact ⟨_, rfl, RepL.vals hf, hf⟩
    · rw [if_neg e] at hj
      exact h.mem _ _ hj
  · intro j c hj
    obtain ⟨c', hc⟩ := live j c hj
    exact h.live _ _ hc
  · intro j j' c c' b k k' h1 h2
    obtain ⟨d, hd⟩ := live j c h1
    obtain ⟨d', hd'⟩ := live j' c' h2
    exact h.inj _ _ _ _ _ _ _ hd hd'
theorem gwH_at (xs : List Int) : ∀ k, (gwH xs k).2.2.1 ≤ 2 + 2 * k
  | 0 => by
    have h1 := pkS_le xs 9 (0, 0)
    have h2 := pkS_le xs 20 (gwS1 xs)
    show (gwS2 xs).1 ≤ _
    unfold gwS2; unfold gwS1 at *; simp at h1; omega
  | k + 1 => by
    have h0 := gwH_at xs k
    have h1 := pkS_le xs 6 (gwH xs k).2.2
    have h2 := pkS_le xs 6 (pkS xs 6 (gwH xs k).2.2)
    show (pkS xs 6 (pkS xs 6 (gwH xs k).2.2)).1 ≤ _
    omega
theorem gwP_at (xs : List Int) : ∀ k, (gwP xs k).2.1 ≤ 2 + 2 * (gwN xs).toNat + 2 * k
  | 0 => by have := gwH_at xs (gwN xs).toNat; show (gwH xs (gwN xs).toNat).2.2.1 ≤ _; omega
  | k + 1 => by
    have h0 := gwP_at xs k
    have h1 := pkS_le xs 4 (gwP xs k).2
    have h2 := pkS_le xs 12 (pkS xs 4 (gwP xs k).2)
    rw [gwP]
    split
    · split
      · show (pkS xs 12 (pkS xs 4 (gwP xs k).2)).1 ≤ _; omega
      · show (pkS xs 4 (gwP xs k).2).1 ≤ _; omega
    · omega
end Go.V
namespace Go.Proofs.Ytcnenmcagkbppaa
open Go.V
set_option maxHeartbeats 800000 in
theorem l06Drawn_satM (xs : List Int) (hx : Bytes xs) (hl : xs.length ≤ 4096) : SatM Try.prog 31 [.ptr (lentId 0) 0] [srcD xs s0] (.agg (gutE (gwN xs) (gwD xs) (gwH xs (gwN xs).toNat).2.1 (gwH xs (gwN xs).toNat).1 (.slc true 2 (0, 0, 0) 0 (gwP xs (gwN xs).toNat).1.length))) [some (srcD xs (gwP xs (gwN xs).toNat).2)] [.v (.agg ⟨pipesC (gwP xs (gwN xs).toNat).1⟩)] := by
  have hn := gwN_in hx
  have hd := gwD_in hx
  refine satM_of_wp hMix tOk Try.func31 rfl rfl Try.ntmps31 rfl rfl Try.results31 (by kernel_rfl) ?_
  conv => whnf
  repeat (first | (refine go_E40 ?_; conv => whnf) | (refine lk_E40 ?_; conv => whnf))
  first | refine ⟨[(lentId 0)], _, _, _, _, _, _, _, _, rfl, rfl, rfl, rfl, (sm_E40 (pick_satM xs hx hl 9 (by omega) s0 (by show 0 ≤ 1000000; omega))), rfl, rfl, rfl, rfl, ?_⟩ | refine .inr ⟨[(lentId 0)], _, _, _, _, _, _, _, _, rfl, rfl, rfl, rfl, (sm_E40 (pick_satM xs hx hl 9 (by omega) s0 (by show 0 ≤ 1000000; omega))), rfl, rfl, rfl, rfl, ?_⟩ | refine ⟨[(lentId 0)], _, _, _, _, _, rfl, rfl, rfl, rfl, (sm_E40 (pick_satM xs hx hl 9 (by omega) s0 (by show 0 ≤ 1000000; omega))), rfl, rfl, ?_⟩
  conv => whnf
  repeat (first | (refine go_E40 ?_; conv => whnf) | (refine lk_E40 ?_; conv => whnf))
  have q1 : (pkS xs 9 s0).1 ≤ 1 := pkS_le xs 9 s0
  first | refine ⟨[(lentId 0)], _, _, _, _, _, _, _, _, rfl, rfl, rfl, rfl, (sm_E40 (pick_satM xs hx hl 20 (by omega) (pkS xs 9 s0) (by omega))), rfl, rfl, rfl, rfl, ?_⟩ | refine .inr ⟨[(lentId 0)], _, _, _, _, _, _, _, _, rfl, rfl, rfl, rfl, (sm_E40 (pick_satM xs hx hl 20 (by omega) (pkS xs 9 s0) (by omega))), rfl, rfl, rfl, rfl, ?_⟩ | refine ⟨[(lentId 0)], _, _, _, _, _, rfl, rfl, rfl, rfl, (sm_E40 (pick_satM xs hx hl 20 (by omega) (pkS xs 9 s0) (by omega))), rfl, rfl, ?_⟩
  conv => whnf
  repeat (first | (refine go_E40 ?_; conv => whnf) | (refine lk_E40 ?_; conv => whnf))
  rw [show IntKind.i64.wrap (1 + pkV xs 9 s0) = gwN xs by rw [show 1 + pkV xs 9 s0 = gwN xs from rfl, w64 (by omega) (by omega)],
    show IntKind.i8.wrap (gwN xs) = gwN xs from w8 (by omega) (by omega),
    show IntKind.i16.wrap (pkV xs 20 (pkS xs 9 s0)) = gwD xs by rw [show pkV xs 20 (pkS xs 9 s0) = gwD xs from rfl, w16 (by omega) (by omega)]]
  have hat := gwH_at xs
  refine loop_rule (α := Nat) (fun k => [(0, .ptr (lentId 0) 0), (2, .ptr (2, 0, 0) 0), (3, .v (.int .i64 (gwN xs))), (4, .ptr (4, 0, 0) 0), (5, .v (.int .i64 k))]) (fun k => [(lentId 0, srcD xs (gwH xs k).2.2), ((2, 0, 0), .v (.agg ⟨[.int .i8 0, .int .i16 0] ++ List.replicate 17 (.int .i8 0) ++ [.int .u32 0, .slice none 0 0]⟩)), ((4, 0, 0), .agg (gutE (gwN xs) (gwD xs) (gwH xs k).2.1 (gwH xs k).1 (.v (.slice none 0 0))))]) (fun k => k ≤ (gwN xs).toNat) (fun k => (gwN xs).toNat - k) (0) ?_ (Sim.trans (split_sim (id := (4, 0, 0)) rfl) (sim_of (rn := [((2, 0, 0), (2, 0, 0)), ((4, 0, 0), (4, 0, 0))]) rfl ?_ ?_)) ?_
  · exact okt_E40
  · exact hold_E40
  · ((repeat' (first | exact trivial | apply And.intro)) <;> ((first | refine ⟨_, _, rfl, rfl, ?_⟩ ); rfl))
  intro k hk
  have hak := hat k
  conv => whnf
  repeat (first | (refine go_E40 ?_; conv => whnf) | (refine lk_E40 ?_; conv => whnf))
  cases h : decide ((k : Int) < gwN xs)
  · have hkn : k = (gwN xs).toNat := by simp at h; omega
    conv => whnf
    repeat (first | (refine go_E40 ?_; conv => whnf) | (refine lk_E40 ?_; conv => whnf))
    have hat2 := gwP_at xs
    refine loop_rule (α := Nat) (fun j => [(0, .ptr (lentId 0) 0), (2, .ptr (2, 0, 0) 0), (3, .v (.int .i64 (gwN xs))), (4, .ptr (4, 0, 0) 0), (6, .v (.int .i64 j))]) (fun j => [(lentId 0, srcD xs (gwP xs j).2), ((2, 0, 0), .v (.agg ⟨[.int .i8 0, .int .i16 0] ++ List.replicate 17 (.int .i8 0) ++ [.int .u32 0, .slice none 0 0]⟩)), ((4, 0, 0), .agg (gutE (gwN xs) (gwD xs) (gwH xs (gwN xs).toNat).2.1 (gwH xs (gwN xs).toNat).1 (.slc true 2 (58, 0, 0) 0 (gwP xs j).1.length))), ((58, 0, 0), .v (.agg ⟨pipesC (gwP xs j).1⟩))]) (fun j => j ≤ (gwN xs).toNat) (fun j => (gwN xs).toNat - j) (0) ?_ (sim_of (rn := [((2, 0, 0), (2, 0, 0)), ((4, 0, 0), (4, 0, 0)), ((58, 0, 0), nilId)]) rfl ?_ ?_) ?_
    · exact okt_E40
    · exact hold_E40
    · ((repeat' (first | exact trivial | apply And.intro)) <;> ((first | refine ⟨_, _, rfl, rfl, ?_⟩ ); first | rfl | (first | (rw [hkn]; rfl) | exact cset pipesC_nil.symm)))
    intro j hj
    have haj := hat2 j
    have hin := gwP_in hx j
    conv => whnf
    repeat (first | (refine go_E40 ?_; conv => whnf) | (refine lk_E40 ?_; conv => whnf))
    cases h3 : decide ((j : Int) < gwN xs)
    · have hjn : j = (gwN xs).toNat := by simp at h3; omega
      subst hjn
      conv => whnf
      repeat (first | (refine go_E40 ?_; conv => whnf) | (refine lk_E40 ?_; conv => whnf))
      refine ⟨[(58, 0, 0)], _, rfl, rfl, rfl, ?_, ?_, rfl⟩
      · rfl
      ((repeat' (first | exact trivial | apply And.intro)) <;> (refine ⟨_, rfl, ?_⟩; first | rfl | (rfl)))
    have hjn : (j : Int) < gwN xs := by simpa using h3
    conv => whnf
    repeat (first | (refine go_E40 ?_; conv => whnf) | (refine lk_E40 ?_; conv => whnf))
    cases h4 : decide (((gwP xs j).1.length : Int) < 4)
    · have e := gwP_full xs (j := j) (by simp at h4; omega) (m := (gwN xs).toNat) hj
      rw [e]
      conv => whnf
      repeat (first | (refine go_E40 ?_; conv => whnf) | (refine lk_E40 ?_; conv => whnf))
      refine ⟨[(58, 0, 0)], _, rfl, rfl, rfl, ?_, ?_, rfl⟩
      · rfl
      ((repeat' (first | exact trivial | apply And.intro)) <;> (refine ⟨_, rfl, ?_⟩; first | rfl | (rfl)))
    have h4' : (gwP xs j).1.length < 4 := by simp at h4; omega
    conv => whnf
    repeat (first | (refine go_E40 ?_; conv => whnf) | (refine lk_E40 ?_; conv => whnf))
    first | refine ⟨[(lentId 0)], _, _, _, _, _, _, _, _, rfl, rfl, rfl, rfl, (sm_E40 (one_satM xs hx hl 4 (by omega) (gwP xs j).2 (by omega))), rfl, rfl, rfl, rfl, ?_⟩ | refine .inr ⟨[(lentId 0)], _, _, _, _, _, _, _, _, rfl, rfl, rfl, rfl, (sm_E40 (one_satM xs hx hl 4 (by omega) (gwP xs j).2 (by omega))), rfl, rfl, rfl, rfl, ?_⟩ | refine ⟨[(lentId 0)], _, _, _, _, _, rfl, rfl, rfl, rfl, (sm_E40 (one_satM xs hx hl 4 (by omega) (gwP xs j).2 (by omega))), rfl, rfl, ?_⟩
    conv => whnf
    repeat (first | (refine go_E40 ?_; conv => whnf) | (refine lk_E40 ?_; conv => whnf))
    cases h5 : (pkV xs 4 (gwP xs j).2 == 0)
    · have h5' : ¬ pkV xs 4 (gwP xs j).2 = 0 := by simpa using h5
      have el : gwP xs (j + 1) = ((gwP xs j).1, pkS xs 4 (gwP xs j).2) := by rw [gwP, if_pos h4', if_neg h5']
      conv => whnf
      repeat (first | (refine go_E40 ?_; conv => whnf) | (refine lk_E40 ?_; conv => whnf))
      refine ⟨j + 1, ?_, ?_, sim_of (rn := [((2, 0, 0), (2, 0, 0)), ((4, 0, 0), (4, 0, 0)), ((58, 0, 0), (58, 0, 0))]) rfl ?_ ?_⟩
      · (dsimp only; omega)
      · exact okt_E40
      · exact hold_E40
      · ((repeat' (first | exact trivial | apply And.intro)) <;> ((first | refine ⟨_, _, rfl, rfl, ?_⟩ ); first | rfl | (rw [el]; rfl)))
    have h5' : pkV xs 4 (gwP xs j).2 = 0 := by simpa using h5
    have el : gwP xs (j + 1) = ((gwP xs j).1 ++ [((j : Int), pkV xs 12 (pkS xs 4 (gwP xs j).2))], pkS xs 12 (pkS xs 4 (gwP xs j).2)) := by rw [gwP, if_pos h4', if_pos h5']
    have hle4 := pkS_le xs 4 (gwP xs j).2
    conv => whnf
    repeat (first | (refine go_E40 ?_; conv => whnf) | (refine lk_E40 ?_; conv => whnf))
    first | refine ⟨[(lentId 0)], _, _, _, _, _, _, _, _, rfl, rfl, rfl, rfl, (sm_E40 (pick_satM xs hx hl 12 (by omega) (pkS xs 4 (gwP xs j).2) (by omega))), rfl, rfl, rfl, rfl, ?_⟩ | refine .inr ⟨[(lentId 0)], _, _, _, _, _, _, _, _, rfl, rfl, rfl, rfl, (sm_E40 (pick_satM xs hx hl 12 (by omega) (pkS xs 4 (gwP xs j).2) (by omega))), rfl, rfl, rfl, rfl, ?_⟩ | refine ⟨[(lentId 0)], _, _, _, _, _, rfl, rfl, rfl, rfl, (sm_E40 (pick_satM xs hx hl 12 (by omega) (pkS xs 4 (gwP xs j).2) (by omega))), rfl, rfl, ?_⟩
    conv => whnf
    repeat (first | (refine go_E40 ?_; conv => whnf) | (refine lk_E40 ?_; conv => whnf))
    have hp12 := pkV_in hx (n := 12) (by omega) (pkS xs 4 (gwP xs j).2)
    rw [w8 (n := (j : Int)) (by omega) (by omega), w16 (n := pkV xs 12 (pkS xs 4 (gwP xs j).2)) (by omega) (by omega)]
    have e2 : pipesC (gwP xs j).1 ++ [.int .i8 j, .int .i16 (pkV xs 12 (pkS xs 4 (gwP xs j).2))] = pipesC (gwP xs (j + 1)).1 := by rw [el, pipesC_snoc]
    have e3 : (gwP xs (j + 1)).1.length = (gwP xs j).1.length + 1 := by rw [el]; simp
    have e4 : (gwP xs (j + 1)).2 = pkS xs 12 (pkS xs 4 (gwP xs j).2) := by rw [el]
    refine ⟨j + 1, ?_, ?_, sim_of (rn := [((2, 0, 0), (2, 0, 0)), ((4, 0, 0), (4, 0, 0)), ((58, 0, 0), (58, 1, 0))]) rfl ?_ ?_⟩
    · (dsimp only; omega)
    · exact okt_E40
    · exact hold_E40
    · ((repeat' (first | exact trivial | apply And.intro)) <;> ((first | refine ⟨_, _, rfl, rfl, ?_⟩ ); first | rfl | (first | (rw [e4]; rfl) | exact cset e2 | (rw [e3]; rfl))))
  have hkn : (k : Int) < gwN xs := by simpa using h
  have hp6 := pkV_in hx (n := 6) (by omega) (gwH xs k).2.2
  have hle := pkS_le xs 6 (gwH xs k).2.2
  have setA : (gutE (gwN xs) (gwD xs) (gwH xs k).2.1 (gwH xs k).1 (.v (.slice none 0 0))).set (0 + 2 + (k : Int).toNat * ti24.size) (.v (.int .i8 (pkV xs 6 (gwH xs k).2.2))) = gutE (gwN xs) (gwD xs) (gwH xs k).2.1 (gwH xs (k + 1)).1 (.v (.slice none 0 0)) := by
    rw [gutE_set (k := k) (by omega) (by simp)]; rfl
  conv => whnf
  repeat (first | (refine go_E40 ?_; conv => whnf) | (refine lk_E40 ?_; conv => whnf))
  first | refine ⟨[(lentId 0)], _, _, _, _, _, _, _, _, rfl, rfl, rfl, rfl, (sm_E40 (pick_satM xs hx hl 6 (by omega) (gwH xs k).2.2 (by omega))), rfl, rfl, rfl, rfl, ?_⟩ | refine .inr ⟨[(lentId 0)], _, _, _, _, _, _, _, _, rfl, rfl, rfl, rfl, (sm_E40 (pick_satM xs hx hl 6 (by omega) (gwH xs k).2.2 (by omega))), rfl, rfl, rfl, rfl, ?_⟩ | refine ⟨[(lentId 0)], _, _, _, _, _, rfl, rfl, rfl, rfl, (sm_E40 (pick_satM xs hx hl 6 (by omega) (gwH xs k).2.2 (by omega))), rfl, rfl, ?_⟩
  conv => whnf
  repeat (first | (refine go_E40 ?_; conv => whnf) | (refine lk_E40 ?_; conv => whnf))
  rw [w8 (n := pkV xs 6 (gwH xs k).2.2) (by omega) (by omega)]
  first | refine ⟨[(lentId 0)], _, _, _, _, _, _, _, _, rfl, rfl, rfl, rfl, (sm_E40 (one_satM xs hx hl 6 (by omega) (pkS xs 6 (gwH xs k).2.2) (by omega))), rfl, rfl, rfl, rfl, ?_⟩ | refine .inr ⟨[(lentId 0)], _, _, _, _, _, _, _, _, rfl, rfl, rfl, rfl, (sm_E40 (one_satM xs hx hl 6 (by omega) (pkS xs 6 (gwH xs k).2.2) (by omega))), rfl, rfl, rfl, rfl, ?_⟩ | refine ⟨[(lentId 0)], _, _, _, _, _, rfl, rfl, rfl, rfl, (sm_E40 (one_satM xs hx hl 6 (by omega) (pkS xs 6 (gwH xs k).2.2) (by omega))), rfl, rfl, ?_⟩
  conv => whnf
  repeat (first | (refine go_E40 ?_; conv => whnf) | (refine lk_E40 ?_; conv => whnf))
  cases h2 : (pkV xs 6 (pkS xs 6 (gwH xs k).2.2) == 0)
  · have h2' : ¬ pkV xs 6 (pkS xs 6 (gwH xs k).2.2) = 0 := by simpa using h2
    have el : (gwH xs (k + 1)).2.1 = (gwH xs k).2.1 := by rw [gwH]; exact if_neg h2'
    conv => whnf
    repeat (first | (refine go_E40 ?_; conv => whnf) | (refine lk_E40 ?_; conv => whnf))
    refine ⟨k + 1, ?_, ?_, sim_of (rn := [((2, 0, 0), (2, 0, 0)), ((4, 0, 0), (4, 0, 0))]) rfl ?_ ?_⟩
    · (dsimp only; omega)
    · exact okt_E40
    · exact hold_E40
    · ((repeat' (first | exact trivial | apply And.intro)) <;> ((first | refine ⟨_, _, rfl, rfl, ?_⟩ ); first | rfl | (exact (congrArg (fun l => some (D.agg l)) setA).trans (by rw [el]; rfl))))
  have h2' : pkV xs 6 (pkS xs 6 (gwH xs k).2.2) = 0 := by simpa using h2
  have el : (gwH xs (k + 1)).2.1 = (gwH xs k).2.1 ||| 2 ^ k := by rw [gwH]; exact if_pos h2'
  rw [setA]
  have hlv := (gwH_in hx k).2.2
  have hpk : 2 ^ k ≤ 2 ^ 9 := Nat.pow_le_pow_right (by omega) (by omega)
  have eo := orLeaf (a := (gwH xs k).2.1) (k := k) (by omega) (by omega)
  conv => whnf
  repeat (first | (refine go_E40 ?_; conv => whnf) | (refine lk_E40 ?_; conv => whnf))
  try rw [eo]
  refine ⟨k + 1, ?_, ?_, sim_of (rn := [((2, 0, 0), (2, 0, 0)), ((4, 0, 0), (4, 0, 0))]) rfl ?_ ?_⟩
  · (dsimp only; omega)
  · exact okt_E40
  · exact hold_E40
  · ((repeat' (first | exact trivial | apply And.intro)) <;> ((first | refine ⟨_, _, rfl, rfl, ?_⟩ ); first | rfl | ((rw [el]; rfl))))
end Go.Proofs.Ytcnenmcagkbppaa
/- Gutters that are drawn from bytes: the draw of the law; pails that take the least. -/
set_option linter.unusedVariables false
set_option linter.unusedSimpArgs false
set_option maxRecDepth 4000
namespace Go.V
/- Words for the walks of this text: their default arguments are tried where they are used. -/
theorem go_E41 {P Q : Prop} (k : Q) (h : P := by first | exact Nat.le_of_ble_eq_true rfl | exact trivial | exact rfl | decide | omega | (simp [splice]; done) | (constructor <;> omega) | (simp [splice]; omega)) : P ∧ Q := ⟨h, k⟩
theorem lk_E41 {α : Type} {o : Option α} {K : α → Prop} {x : α} (k : K x) (h : o = some x := by first | exact u8A (by omega) | exact u8A' (by omega) | exact hDA (by omega) | exact hDA' (by omega) | exact gutA (by omega) | exact pipeA (by omega) | exact pipeB (by omega) | exact pipeSA (by omega) | exact pipeSB (by omega) | exact intA (by omega) | exact intA' (by omega)) : optK o K := optK_of h k
theorem sc_E41 {P : Program} {g : FuncId} {args args' : List D} {res : D} (h : Sat P g args res) (e : args' = args := by repeat (first | rfl | exact vfull (by first | (simp [splice]; done) | (simp [splice]; omega)) | exact rfull (by first | (simp [splice]; done) | (simp [splice]; omega)) | exact vpipe (by simp; done) (by omega) | exact vsplice (by simp) (by simp) | refine ceq ?_ ?_ | refine Eq.trans (vsplice (by first | (simp; done) | (simp; omega)) (by first | (simp; done) | (simp; omega))) ?_)) : Sat P g args' res := Sat.of_eq h e
theorem sm_E41 {low : Bool} {P : Program} {g : FuncId} {args args' ms ms0 : List D} {res : D} {ms' : List (Option D)} {news : List D} (h : SatB low P g args ms res ms' news) (e : args' = args := by repeat (first | rfl | exact vfull (by first | (simp [splice]; done) | (simp [splice]; omega)) | exact rfull (by first | (simp [splice]; done) | (simp [splice]; omega)) | exact vpipe (by simp; done) (by omega) | exact vsplice (by simp) (by simp) | refine ceq ?_ ?_ | refine Eq.trans (vsplice (by first | (simp; done) | (simp; omega)) (by first | (simp; done) | (simp; omega))) ?_)) (e2 : ms0 = ms := by repeat (first | rfl | exact vfull (by first | (simp [splice]; done) | (simp [splice]; omega)) | exact rfull (by first | (simp [splice]; done) | (simp [splice]; omega)) | exact vpipe (by simp; done) (by omega) | exact vsplice (by simp) (by simp) | refine ceq ?_ ?_ | refine Eq.trans (vsplice (by first | (simp; done) | (simp; omega)) (by first | (simp; done) | (simp; omega))) ?_)) : SatB low P g args' ms0 res ms' news := SatB.of_eq h e e2
end Go.V
namespace Go.V
theorem gut_row (m : Bool) (g : Gut) : gutD m g = .agg (gutE g.n g.dp g.lv g.h (.row m 2 (.v (.agg ⟨List.take (g.ps.length * 2) (List.drop 0 (pipesC g.ps))⟩)) g.ps.length)) := by
  rw [List.drop_zero, take_full (by simp)]; rfl
end Go.V
namespace Go.Proofs.Ytcnenmcagkbppaa
open Go.V
theorem p6Gutter_sat (xs : List Int) (hx : Bytes xs) (hl : xs.length ≤ 4096) (m : Bool) : Sat Try.prog 5 [u8D m xs] (gutD true (gwG xs)) := by
  refine sat_of_wp hMix tOk Try.func5 rfl rfl Try.ntmps5 rfl rfl Try.results5 (by kernel_rfl) ?_
  conv => whnf
  repeat (first | (refine go_E41 ?_; conv => whnf) | (refine lk_E41 ?_; conv => whnf))
  first | refine ⟨[], _, _, _, _, _, _, _, _, rfl, rfl, rfl, rfl, (sm_E41 (l00From_satM xs)), rfl, rfl, rfl, rfl, ?_⟩ | refine .inr ⟨[], _, _, _, _, _, _, _, _, rfl, rfl, rfl, rfl, (sm_E41 (l00From_satM xs)), rfl, rfl, rfl, rfl, ?_⟩ | refine ⟨[], _, _, _, _, _, rfl, rfl, rfl, rfl, (sm_E41 (l00From_satM xs)), rfl, rfl, ?_⟩
  conv => whnf
  repeat (first | (refine go_E41 ?_; conv => whnf) | (refine lk_E41 ?_; conv => whnf))
  first | refine ⟨[(4, 0, 0)], _, _, _, _, _, _, _, _, rfl, rfl, rfl, rfl, (sm_E41 (l06Drawn_satM xs hx hl)), rfl, rfl, rfl, rfl, ?_⟩ | refine .inr ⟨[(4, 0, 0)], _, _, _, _, _, _, _, _, rfl, rfl, rfl, rfl, (sm_E41 (l06Drawn_satM xs hx hl)), rfl, rfl, rfl, rfl, ?_⟩ | refine ⟨[(4, 0, 0)], _, _, _, _, _, rfl, rfl, rfl, rfl, (sm_E41 (l06Drawn_satM xs hx hl)), rfl, rfl, ?_⟩
  conv => whnf
  repeat (first | (refine go_E41 ?_; conv => whnf) | (refine lk_E41 ?_; conv => whnf))
  first | refine ⟨rfl, _, rfl, ?_⟩ | refine ⟨_, rfl, ?_⟩
  skip
  exact (gut_row true (gwG xs)).trans rfl
theorem ownM (g : Gut) (hl : g.ps.length ≤ 4) (hne : 0 < g.ps.length) : SatM Try.prog 66 [gutD false g] [] (.agg (gutE g.n g.dp g.lv g.h (.slc true 2 (0, 0, 0) 0 g.ps.length))) [] [.v (.agg ⟨pipesC g.ps⟩)] := by
  refine satM_of_wp hMix tOk Try.func66 rfl rfl Try.ntmps66 rfl rfl Try.results66 (by kernel_rfl) ?_
  conv => whnf
  repeat (first | (refine go_E41 ?_; conv => whnf) | (refine lk_E41 ?_; conv => whnf))
  first | refine ⟨_, _, rfl, sc_E41 (clone_sat g.ps hl), ?_⟩ | refine .inl ⟨_, _, rfl, sc_E41 (clone_sat g.ps hl), ?_⟩
  conv => whnf
  repeat (first | (refine go_E41 ?_; conv => whnf) | (refine lk_E41 ?_; conv => whnf))
  refine ⟨[(5, 0, 0)], _, rfl, rfl, rfl, ?_, ?_, rfl⟩
  · rfl
  ((repeat' (first | exact trivial | apply And.intro)) <;> (refine ⟨_, rfl, ?_⟩; first | rfl | (rfl)))
theorem l06OwnM (g : Gut) (hl : g.ps.length ≤ 4) (hne : 0 < g.ps.length) : SatM Try.prog 69 [.ptr (lentId 0) 0] [gutD false g] (.agg (gutE g.n g.dp g.lv g.h (.slc true 2 (0, 0, 0) 0 (0 + g.ps.length)))) [some (gutD false g)] [.v (.agg ⟨pipesC g.ps⟩)] := by
  refine satM_of_wp hMix tOk Try.func69 rfl rfl Try.ntmps69 rfl rfl Try.results69 (by kernel_rfl) ?_
  conv => whnf
  repeat (first | (refine go_E41 ?_; conv => whnf) | (refine lk_E41 ?_; conv => whnf))
  refine ⟨[(12, 0, 0)], _, rfl, rfl, rfl, ?_, ?_, rfl⟩
  · rfl
  ((repeat' (first | exact trivial | apply And.intro)) <;> (refine ⟨_, rfl, ?_⟩; first | rfl | (rfl)))
end Go.Proofs.Ytcnenmcagkbppaa
/- What the least pail takes: both sides. -/
set_option linter.unusedVariables false
set_option linter.unusedSimpArgs false
set_option maxRecDepth 20000
namespace Go.V
/- Words for the walks of this text: their default arguments are tried where they are used. -/
theorem go_E42 {P Q : Prop} (k : Q) (h : P := by first | exact Nat.le_of_ble_eq_true rfl | exact trivial | exact pipes_lt (by omega) | exact rfl | decide | omega | (simp [splice]; done) | (constructor <;> omega) | (simp [splice]; omega)) : P ∧ Q := ⟨h, k⟩
theorem lk_E42 {α : Type} {o : Option α} {K : α → Prop} {x : α} (k : K x) (h : o = some x := by first | exact u8A (by omega) | exact u8A' (by omega) | exact hDA (by omega) | exact hDA' (by omega) | exact gutA (by omega) | exact pipeA (by omega) | exact pipeB (by omega) | exact pipeSA (by omega) | exact pipeSB (by omega) | exact intA (by omega) | exact intA' (by omega)) : optK o K := optK_of h k
theorem sc_E42 {P : Program} {g : FuncId} {args args' : List D} {res : D} (h : Sat P g args res) (e : args' = args := by repeat (first | rfl | exact vfull (by first | (simp [splice]; done) | (simp [splice]; omega)) | exact rfull (by first | (simp [splice]; done) | (simp [splice]; omega)) | exact vpipe (by simp; done) (by omega) | exact vsplice (by simp) (by simp) | refine ceq ?_ ?_ | refine Eq.trans (vsplice (by first | (simp; done) | (simp; omega)) (by first | (simp; done) | (simp; omega))) ?_)) : Sat P g args' res := Sat.of_eq h e
theorem sm_E42 {low : Bool} {P : Program} {g : FuncId} {args args' ms ms0 : List D} {res : D} {ms' : List (Option D)} {news : List D} (h : SatB low P g args ms res ms' news) (e : args' = args := by repeat (first | rfl | exact vfull (by first | (simp [splice]; done) | (simp [splice]; omega)) | exact rfull (by first | (simp [splice]; done) | (simp [splice]; omega)) | exact vpipe (by simp; done) (by omega) | exact vsplice (by simp) (by simp) | refine ceq ?_ ?_ | refine Eq.trans (vsplice (by first | (simp; done) | (simp; omega)) (by first | (simp; done) | (simp; omega))) ?_)) (e2 : ms0 = ms := by repeat (first | rfl | exact vfull (by first | (simp [splice]; done) | (simp [splice]; omega)) | exact rfull (by first | (simp [splice]; done) | (simp [splice]; omega)) | exact vpipe (by simp; done) (by omega) | exact vsplice (by simp) (by simp) | refine ceq ?_ ?_ | refine Eq.trans (vsplice (by first | (simp; done) | (simp; omega)) (by first | (simp; done) | (simp; omega))) ?_)) : SatB low P g args' ms0 res ms' news := SatB.of_eq h e e2
theorem leaf_E42 {P : Prop} (h : P := by first | rfl | exact succ8 (by omega) | exact succ64 (by omega) | exact CapOk.fn (by assumption) _ _ | exact vintS (by omega) | exact vintS (by rw [w64 (by omega) (by omega)]; omega) | exact vintS (by rw [w8 (by omega) (by omega)]; omega) | exact vslcS (by omega) | exact vslcS (by simp)) : P := h
theorem hold_E42 {P : Prop} (h : P := by (repeat' (first | exact trivial | apply And.intro)) <;> (first | rfl | exact succ8 (by omega) | exact succ64 (by omega) | exact CapOk.fn (by assumption) _ _ | exact vintS (by omega) | exact vintS (by rw [w64 (by omega) (by omega)]; omega) | exact vintS (by rw [w8 (by omega) (by omega)]; omega) | exact vslcS (by omega) | exact vslcS (by simp))) : P := h
end Go.V
namespace Go.V
theorem px_set {ps : List (Int × Int)} {p i : Nat} {q : Int × Int} (hp : p < ps.length) : px (ps.set p q) i = if i = p then q else px ps i := by
  unfold px
  rw [List.getD_eq_getElem?_getD, List.getElem?_set]
  by_cases h : p = i
  · subst h; simp [hp]
  · rw [if_neg h, if_neg (fun e => h e.symm), List.getD_eq_getElem?_getD]
theorem pipesC_set : ∀ {ps : List (Int × Int)} {p o : Nat} {t : Int}, p < ps.length → o = p * 2 + 1 → (pipesC ps).set o (.int .i16 t) = pipesC (ps.set p ((px ps p).1, t))
  | [], p, o, t, h, _ => by simp at h
  | q :: ps, 0, o, t, _, ho => by
    subst ho
    rw [List.set_cons_zero, pipesC_cons, pipesC_cons]
    rfl
  | q :: ps, p + 1, o, t, h, ho => by
    have ih := pipesC_set (ps := ps) (p := p) (o := p * 2 + 1) (t := t) (by simpa using h) rfl
    subst ho
    rw [show (p + 1) * 2 + 1 = (p * 2 + 1) + 1 + 1 by omega, List.set_cons_succ, pipesC_cons, pipesC_cons, List.set_cons_succ, List.set_cons_succ, ih]
    rfl
theorem setT_len (g : Gut) (p : Nat) (t : Int) : (setT g p t).ps.length = g.ps.length := by unfold setT; simp
theorem setT_px {g : Gut} {p : Nat} {t : Int} (hp : p < g.ps.length) (i : Nat) : px (setT g p t).ps i = if i = p then ((px g.ps p).1, t) else px g.ps i := px_set hp
theorem setT_set {g : Gut} {p o : Nat} {z t : Int} (hp : p < g.ps.length) (ho : o = p * 2 + 1) : (pipesC (setT g p z).ps).set o (.int .i16 t) = pipesC (setT g p t).ps := by
  rw [pipesC_set (p := p) (by rw [setT_len]; exact hp) ho, setT_px hp, if_pos rfl]
  unfold setT
  simp
theorem setT_self {g : Gut} {p : Nat} (hp : p < g.ps.length) : (setT g p (px g.ps p).2).ps = g.ps := by
  unfold setT px
  simp only [List.getD_eq_getElem?_getD, List.getElem?_eq_getElem hp, Option.getD_some]
  exact List.set_getElem_self hp
theorem setT_In {g : Gut} (hg : g.In) {p : Nat} (hp : p < g.ps.length) {t : Int} (ht : 0 ≤ t ∧ t ≤ 1000) : (setT g p t).In := by
  refine ⟨hg.n, hg.dp, hg.h, hg.lv, fun i hi => ?_, by rw [setT_len]; exact hg.len⟩
  rw [setT_len] at hi
  rw [setT_px hp]
  have h1 := hg.ps i hi
  have h2 := hg.ps p hp
  by_cases e : i = p
  · rw [if_pos e]; exact ⟨h2.1, by dsimp only; omega, by dsimp only; omega⟩
  · rw [if_neg e]; exact h1
theorem setT_ok {g : Gut} (hk : okG g = true) {p : Nat} (hp : p < g.ps.length) {t : Int} (ht : 0 ≤ t ∧ t ≤ 1000) : okG (setT g p t) = true := by
  unfold okG at *
  simp only [Bool.and_eq_true] at hk ⊢
  obtain ⟨⟨h1, h2⟩, h3⟩ := hk
  refine ⟨⟨?_, h2⟩, ?_⟩
  · unfold okG0 at *
    rw [setT_len]; exact h1
  · rw [setT_len, List.all_eq_true]
    intro i hi
    have h3' := List.all_eq_true.1 h3
    have hip := h3' i hi
    have hpp := h3' p (by simpa using hp)
    rw [List.mem_range] at hi
    have e1 : ∀ j, (px (setT g p t).ps j).1 = (px g.ps j).1 := fun j => by
      rw [setT_px hp]
      by_cases e : j = p
      · rw [if_pos e, e]
      · rw [if_neg e]
    unfold pOk at *
    simp only [e1]
    simp only [Bool.and_eq_true] at hip ⊢
    refine ⟨⟨hip.1.1, ?_⟩, hip.2⟩
    rw [setT_px hp]
    by_cases e : i = p
    · rw [if_pos e]; unfold deepB; simp; omega
    · rw [if_neg e]; exact hip.1.2
theorem lt_some {g : Gut} {xs : List Int} {p t : Nat} (h : ∀ u : Nat, u < t → (fsO (setT g p u) xs).isNone = false) (ht : fsO (setT g p t) xs = none) (hl : t < 1001) : ltO g xs p = some t := by
  unfold ltO
  rw [List.find?_range_eq_some]
  refine ⟨by rw [ht]; rfl, by rw [List.mem_range]; exact hl, fun j hj => by rw [h j hj]; rfl⟩
theorem lt_none {g : Gut} {xs : List Int} {p : Nat} (h : ∀ u : Nat, u < 1001 → (fsO (setT g p u) xs).isNone = false) : ltO g xs p = none := by
  unfold ltO
  rw [List.find?_range_eq_none]
  intro i hi
  rw [h i hi]; rfl
theorem pipes_lt {ps : List (Int × Int)} {p : Nat} (h : p < ps.length) : 0 + (p : Int).toNat * 2 + 1 < (pipesC ps).length := by simp; omega
end Go.V
namespace Go.Proofs.Ytcnenmcagkbppaa
open Go.V
theorem implLeast_sat (g : Gut) (hg : g.In) (hk : okG g = true) (xs : List Int) (hr : rainB g xs = true) (p : Nat) (hp : p < g.ps.length) (b : Bool) :
    Sat Try.prog 23 [gutD false g, intsD b xs, .v (.int .i64 p)] (match ltO g xs p with | some t => .tup [.v (.int .i64 (t : Int)), .v (.int .i64 0)] | none => .tup [.v (.int .i64 0), .v (.int .i64 6)]) := by
  have ho := okG_ok hk
  have hn := ho.n
  have hpl := ho.len
  have hx := rainB_ok hr
  have hxl := hx.len
  have sA := gutterCode_sat g hg true
  rw [ask0 hk] at sA
  have sR := isRain_sat g hg xs (by omega) false
  rw [hr] at sR
  have sO := ownM g ho.len (by omega)
  have sW : Sat Try.prog 55 [.v (.int .i64 p), .v (.int .i64 0), .v (.int .i64 ((g.ps.length : Int) - 1))] (.v (.bool true)) := by
    have := within64_sat (p : Int) 0 ((g.ps.length : Int) - 1)
    rw [show (decide ((0 : Int) ≤ p) && decide ((p : Int) ≤ (g.ps.length : Int) - 1)) = true by simp; omega] at this
    exact this
  have sF : ∀ t : Nat, t ≤ 1000 → Sat Try.prog 67 [.agg (gutE g.n g.dp g.lv g.h (.row false 2 (.v (.agg ⟨List.take (g.ps.length * 2) (List.drop 0 (pipesC (setT g p t).ps))⟩)) g.ps.length)), intsD false xs] (.v (.int .i64 (match fsO (setT g p t) xs with | some m => (m : Int) | none => 200))) := fun t ht => by
    have := firstOver_sat (setT g p t) (setT_In hg hp (by omega)) (okG_ok (setT_ok hk hp (by omega))) xs (rainB_ok (g := setT g p t) hr) false
    rw [gut_row, setT_len] at this
    exact this
  have hlt : ∀ (t m : Nat), fsO (setT g p t) xs = some m → m < 200 := fun t m h => by
    unfold fsO at h
    have := List.mem_of_find?_eq_some h
    simpa using this
  refine sat_of_wp hMix tOk Try.func23 rfl rfl Try.ntmps23 rfl rfl Try.results23 (by kernel_rfl) ?_
  conv => whnf
  repeat (first | (refine go_E42 ?_; conv => whnf) | (refine lk_E42 ?_; conv => whnf))
  first | refine ⟨_, _, rfl, sc_E42 (sR), ?_⟩ | refine .inl ⟨_, _, rfl, sc_E42 (sR), ?_⟩
  conv => whnf
  repeat (first | (refine go_E42 ?_; conv => whnf) | (refine lk_E42 ?_; conv => whnf))
  rw [show IntKind.i64.wrap ((g.ps.length : Int) - 1) = (g.ps.length : Int) - 1 from w64 (by omega) (by omega)]
  first | refine ⟨_, _, rfl, sc_E42 (sW), ?_⟩ | refine .inl ⟨_, _, rfl, sc_E42 (sW), ?_⟩
  conv => whnf
  repeat (first | (refine go_E42 ?_; conv => whnf) | (refine lk_E42 ?_; conv => whnf))
  first | refine ⟨_, _, rfl, sc_E42 (sA), ?_⟩ | refine .inl ⟨_, _, rfl, sc_E42 (sA), ?_⟩
  conv => whnf
  repeat (first | (refine go_E42 ?_; conv => whnf) | (refine lk_E42 ?_; conv => whnf))
  first | refine ⟨[], _, _, _, _, _, _, _, _, rfl, rfl, rfl, rfl, (sm_E42 (sO)), rfl, rfl, rfl, rfl, ?_⟩ | refine .inr ⟨[], _, _, _, _, _, _, _, _, rfl, rfl, rfl, rfl, (sm_E42 (sO)), rfl, rfl, rfl, rfl, ?_⟩ | refine ⟨[], _, _, _, _, _, rfl, rfl, rfl, rfl, (sm_E42 (sO)), rfl, rfl, ?_⟩
  conv => whnf
  repeat (first | (refine go_E42 ?_; conv => whnf) | (refine lk_E42 ?_; conv => whnf))
  refine loop_rule (α := Nat × Int) (fun t => [(1, intsD b xs), (2, .v (.int .i64 p)), (9, .ptr (9, 0, 0) 0), (29, .v (.int .i16 t.1))]) (fun t => [((3, 0, 0), gutD false g), ((9, 0, 0), .agg (gutE g.n g.dp g.lv g.h (.slc true 2 (28, 0, 0) 0 g.ps.length))), ((28, 0, 0), .v (.agg ⟨pipesC (setT g p t.2).ps⟩))]) (fun t => t.1 ≤ 1001 ∧ ∀ u : Nat, u < t.1 → (fsO (setT g p u) xs).isNone = false) (fun t => 1001 - t.1) ((0, (px g.ps p).2)) ?_ (sim_of (rn := [((3, 0, 0), (3, 0, 0)), ((9, 0, 0), (9, 0, 0)), ((28, 0, 0), (28, 0, 0))]) rfl ?_ ?_) ?_
  · exact ⟨by omega, fun u hu => by omega⟩
  · exact hold_E42
  · ((repeat' (first | exact trivial | apply And.intro)) <;> ((first | refine ⟨_, _, rfl, rfl, ?_⟩ ); first | rfl | ((rw [setT_self hp]; rfl))))
  intro tz htz
  obtain ⟨t, z⟩ := tz
  have htz' : t ≤ 1001 ∧ ∀ u : Nat, u < t → (fsO (setT g p u) xs).isNone = false := htz
  have ht := htz'.1
  have hall := htz'.2
  clear htz htz'
  conv => whnf
  repeat (first | (refine go_E42 ?_; conv => whnf) | (refine lk_E42 ?_; conv => whnf))
  cases h : decide ((t : Int) < 1001)
  · have hin : t = 1001 := by simp at h; omega
    subst hin
    rw [lt_none hall]
    conv => whnf
    repeat (first | (refine go_E42 ?_; conv => whnf) | (refine lk_E42 ?_; conv => whnf))
    first | refine ⟨rfl, _, rfl, ?_⟩ | refine ⟨_, rfl, ?_⟩
    rfl
  have hin : t < 1001 := by simp at h; omega
  have hset := setT_set (g := g) (z := z) (t := (t : Int)) (o := 0 + (p : Int).toNat * 2 + 1) hp (by simp)
  have nxt := fun h => below_succ (p := fun u : Nat => (fsO (setT g p u) xs).isNone = false) hall h
  have hstore : 0 + (p : Int).toNat * 2 + 1 < (pipesC (setT g p z).ps).length := by rw [pipesC_len, setT_len]; simp; omega
  conv => whnf
  repeat (first | (refine go_E42 ?_; conv => whnf) | (refine lk_E42 ?_; conv => whnf))
  refine ⟨hstore, ?_⟩
  conv => whnf
  rw [show (Array.mk (pipesC (setT g p (t, z).snd).ps)).toList.set (0 + (p : Int).toNat * ti41.size + 1) (.int .i16 (t : Int)) = pipesC (setT g p t).ps from hset]
  conv => whnf
  repeat (first | (refine go_E42 ?_; conv => whnf) | (refine lk_E42 ?_; conv => whnf))
  first | refine ⟨_, _, rfl, sc_E42 (sF t (by omega)), ?_⟩ | refine .inl ⟨_, _, rfl, sc_E42 (sF t (by omega)), ?_⟩
  conv => whnf
  repeat (first | (refine go_E42 ?_; conv => whnf) | (refine lk_E42 ?_; conv => whnf))
  cases hf : fsO (setT g p t) xs with
  | none =>
    rw [lt_some hall hf hin]
    dsimp only
    conv => whnf
    repeat (first | (refine go_E42 ?_; conv => whnf) | (refine lk_E42 ?_; conv => whnf))
    first | refine ⟨rfl, _, rfl, ?_⟩ | refine ⟨_, rfl, ?_⟩
    skip
    rw [w64 (n := (t : Int)) (by omega) (by omega)]; rfl
  | some m =>
    have hm := hlt t m hf
    have hn2 := nxt (by rw [hf]; rfl)
    dsimp only
    rw [show ((m : Int) == 200) = false by simp; omega]
    conv => whnf
    repeat (first | (refine go_E42 ?_; conv => whnf) | (refine lk_E42 ?_; conv => whnf))
    refine ⟨(t + 1, (t : Int)), ?_, ?_, sim_of (rn := [((3, 0, 0), (3, 0, 0)), ((9, 0, 0), (9, 0, 0)), ((28, 0, 0), (28, 0, 0))]) rfl ?_ ?_⟩
    · (dsimp only; omega)
    · exact ⟨by omega, hn2⟩
    · ((repeat' (first | exact trivial | apply And.intro)) <;> (first | rfl | (first | exact vintS (w16 (by omega) (by omega)) | exact vintS (w16 (by omega) (by omega)).symm) | exact leaf_E42))
    · ((repeat' (first | exact trivial | apply And.intro)) <;> ((first | refine ⟨_, _, rfl, rfl, ?_⟩ ); rfl))
theorem specLeast_sat (g : Gut) (hg : g.In) (hk : okG g = true) (xs : List Int) (hr : rainB g xs = true) (p : Nat) (hp : p < g.ps.length) (b : Bool) :
    Sat Try.prog 24 [gutD false g, intsD b xs, .v (.int .i64 p)] (match ltO g xs p with | some t => .tup [.v (.int .i64 (t : Int)), .v (.int .i64 0)] | none => .tup [.v (.int .i64 0), .v (.int .i64 6)]) := by
  have ho := okG_ok hk
  have hn := ho.n
  have hpl := ho.len
  have hx := rainB_ok hr
  have hxl := hx.len
  have sA := l06Asked_sat g hg true
  rw [ask0 hk] at sA
  have sR := l06Rain_sat g hg xs (by omega) false
  rw [hr] at sR
  have sO := l06OwnM g ho.len (by omega)
  have sW : Sat Try.prog 61 [.v (.int .i64 p), .v (.int .i64 0), .v (.int .i64 ((g.ps.length : Int) - 1))] (.v (.bool true)) := by
    have := l00In_sat (p : Int) 0 ((g.ps.length : Int) - 1)
    rw [show (decide ((p : Int) ≥ 0) && decide ((p : Int) ≤ (g.ps.length : Int) - 1)) = true by simp; omega] at this
    exact this
  have sF : ∀ t : Nat, t ≤ 1000 → Sat Try.prog 70 [.ref false (.agg (gutE g.n g.dp g.lv g.h (.row false 2 (.v (.agg ⟨List.take ((0 + g.ps.length) * 2) (List.drop 0 (pipesC (setT g p t).ps))⟩)) (0 + g.ps.length)))) 0, intsD false xs] (.v (.int .i64 (match fsO (setT g p t) xs with | some m => (m : Int) | none => -1))) := fun t ht => by
    have := l06Over_sat (setT g p t) (setT_In hg hp (by omega)) (okG_ok (setT_ok hk hp (by omega))) xs (rainB_ok (g := setT g p t) hr) false
    rw [gut_row, setT_len] at this
    rw [Nat.zero_add]
    exact this
  have hlt : ∀ (t m : Nat), fsO (setT g p t) xs = some m → m < 200 := fun t m h => by
    unfold fsO at h
    have := List.mem_of_find?_eq_some h
    simpa using this
  refine sat_of_wp hMix tOk Try.func24 rfl rfl Try.ntmps24 rfl rfl Try.results24 (by kernel_rfl) ?_
  conv => whnf
  repeat (first | (refine go_E42 ?_; conv => whnf) | (refine lk_E42 ?_; conv => whnf))
  first | refine ⟨_, _, rfl, sc_E42 (sR), ?_⟩ | refine .inl ⟨_, _, rfl, sc_E42 (sR), ?_⟩
  conv => whnf
  repeat (first | (refine go_E42 ?_; conv => whnf) | (refine lk_E42 ?_; conv => whnf))
  rw [show IntKind.i64.wrap ((g.ps.length : Int) - 1) = (g.ps.length : Int) - 1 from w64 (by omega) (by omega)]
  first | refine ⟨_, _, rfl, sc_E42 (sW), ?_⟩ | refine .inl ⟨_, _, rfl, sc_E42 (sW), ?_⟩
  conv => whnf
  repeat (first | (refine go_E42 ?_; conv => whnf) | (refine lk_E42 ?_; conv => whnf))
  first | refine ⟨_, _, rfl, sc_E42 (sA), ?_⟩ | refine .inl ⟨_, _, rfl, sc_E42 (sA), ?_⟩
  conv => whnf
  repeat (first | (refine go_E42 ?_; conv => whnf) | (refine lk_E42 ?_; conv => whnf))
  first | refine ⟨[(3, 0, 0)], _, _, _, _, _, _, _, _, rfl, rfl, rfl, rfl, (sm_E42 (sO)), rfl, rfl, rfl, rfl, ?_⟩ | refine .inr ⟨[(3, 0, 0)], _, _, _, _, _, _, _, _, rfl, rfl, rfl, rfl, (sm_E42 (sO)), rfl, rfl, rfl, rfl, ?_⟩ | refine ⟨[(3, 0, 0)], _, _, _, _, _, rfl, rfl, rfl, rfl, (sm_E42 (sO)), rfl, rfl, ?_⟩
  conv => whnf
  repeat (first | (refine go_E42 ?_; conv => whnf) | (refine lk_E42 ?_; conv => whnf))
  refine loop_rule (α := Nat × Int) (fun t => [(1, intsD b xs), (2, .v (.int .i64 p)), (9, .ptr (9, 0, 0) 0), (10, .v (.int .i64 t.1))]) (fun t => [((3, 0, 0), gutD false g), ((9, 0, 0), .agg (gutE g.n g.dp g.lv g.h (.slc true 2 (25, 0, 0) 0 (0 + g.ps.length)))), ((25, 0, 0), .v (.agg ⟨pipesC (setT g p t.2).ps⟩))]) (fun t => t.1 ≤ 1001 ∧ ∀ u : Nat, u < t.1 → (fsO (setT g p u) xs).isNone = false) (fun t => 1001 - t.1) ((0, (px g.ps p).2)) ?_ (sim_of (rn := [((3, 0, 0), (3, 0, 0)), ((9, 0, 0), (9, 0, 0)), ((25, 0, 0), (25, 0, 0))]) rfl ?_ ?_) ?_
  · exact ⟨by omega, fun u hu => by omega⟩
  · exact hold_E42
  · ((repeat' (first | exact trivial | apply And.intro)) <;> ((first | refine ⟨_, _, rfl, rfl, ?_⟩ ); first | rfl | ((rw [setT_self hp]; rfl))))
  intro tz htz
  obtain ⟨t, z⟩ := tz
  have htz' : t ≤ 1001 ∧ ∀ u : Nat, u < t → (fsO (setT g p u) xs).isNone = false := htz
  have ht := htz'.1
  have hall := htz'.2
  clear htz htz'
  conv => whnf
  repeat (first | (refine go_E42 ?_; conv => whnf) | (refine lk_E42 ?_; conv => whnf))
  cases h : decide ((t : Int) ≤ 1000)
  · have hin : t = 1001 := by simp at h; omega
    subst hin
    rw [lt_none hall]
    conv => whnf
    repeat (first | (refine go_E42 ?_; conv => whnf) | (refine lk_E42 ?_; conv => whnf))
    first | refine ⟨rfl, _, rfl, ?_⟩ | refine ⟨_, rfl, ?_⟩
    rfl
  have hin : t < 1001 := by simp at h; omega
  have hset := setT_set (g := g) (z := z) (t := (t : Int)) (o := 0 + (p : Int).toNat * 2 + 1) hp (by simp)
  have nxt := fun h => below_succ (p := fun u : Nat => (fsO (setT g p u) xs).isNone = false) hall h
  have hstore : 0 + (p : Int).toNat * 2 + 1 < (pipesC (setT g p z).ps).length := by rw [pipesC_len, setT_len]; simp; omega
  conv => whnf
  repeat (first | (refine go_E42 ?_; conv => whnf) | (refine lk_E42 ?_; conv => whnf))
  rw [show IntKind.i16.wrap (t : Int) = (t : Int) from w16 (by omega) (by omega)]
  refine ⟨hstore, ?_⟩
  conv => whnf
  rw [show (Array.mk (pipesC (setT g p (t, z).snd).ps)).toList.set (0 + (p : Int).toNat * ti41.size + 1) (.int .i16 (t : Int)) = pipesC (setT g p t).ps from hset]
  conv => whnf
  repeat (first | (refine go_E42 ?_; conv => whnf) | (refine lk_E42 ?_; conv => whnf))
  first | refine ⟨_, _, rfl, sc_E42 (sF t (by omega)), ?_⟩ | refine .inl ⟨_, _, rfl, sc_E42 (sF t (by omega)), ?_⟩
  conv => whnf
  repeat (first | (refine go_E42 ?_; conv => whnf) | (refine lk_E42 ?_; conv => whnf))
  cases hf : fsO (setT g p t) xs with
  | none =>
    rw [lt_some hall hf hin]
    dsimp only
    conv => whnf
    repeat (first | (refine go_E42 ?_; conv => whnf) | (refine lk_E42 ?_; conv => whnf))
    first | refine ⟨rfl, _, rfl, ?_⟩ | refine ⟨_, rfl, ?_⟩
    rfl
  | some m =>
    have hm := hlt t m hf
    have hn2 := nxt (by rw [hf]; rfl)
    dsimp only
    rw [show decide ((m : Int) < 0) = false by simp]
    conv => whnf
    repeat (first | (refine go_E42 ?_; conv => whnf) | (refine lk_E42 ?_; conv => whnf))
    refine ⟨(t + 1, (t : Int)), ?_, ?_, sim_of (rn := [((3, 0, 0), (3, 0, 0)), ((9, 0, 0), (9, 0, 0)), ((25, 0, 0), (25, 0, 0))]) rfl ?_ ?_⟩
    · (dsimp only; omega)
    · exact ⟨by omega, hn2⟩
    · exact hold_E42
    · ((repeat' (first | exact trivial | apply And.intro)) <;> ((first | refine ⟨_, _, rfl, rfl, ?_⟩ ); rfl))
end Go.Proofs.Ytcnenmcagkbppaa
/- Plain words for the law on pipes. -/
set_option linter.unusedVariables false
set_option linter.unusedSimpArgs false
namespace Go.V
theorem bst_mem {F : Nat → Int} {ls : List Nat} (h : 0 < ls.length) : ∃ c ∈ ls, bst F ls = ((c : Int), F c) := by
  unfold bst
  rw [if_neg (by omega)]
  have hle := am_le (fun i => F (nx ls i)) (ls.length - 1)
  refine ⟨_, ?_, rfl⟩
  unfold nx
  rw [List.getD_eq_getElem?_getD, List.getElem?_eq_getElem (by unfold nx at hle; omega)]
  exact List.getElem_mem _
theorem lvC_le {g : Gut} (h : 0 ≤ g.lv ∧ g.lv ≤ 4294967295) (c : Nat) : 0 ≤ lvC g c ∧ lvC g c ≤ g.lv := by
  obtain ⟨x, hx⟩ := eq_toNat h.1
  unfold lvC
  generalize IntKind.u32.wrap (1 * 2 ^ (min (c : Int).toNat IntKind.u32.bits)) = y
  have e1 : (BitVec.ofInt IntKind.u32.bits g.lv &&& ~~~ BitVec.ofInt IntKind.u32.bits y).toNat ≤ x := by
    rw [BitVec.toNat_and]
    refine Nat.le_trans Nat.and_le_left ?_
    rw [hx, BitVec.ofInt_natCast, BitVec.toNat_ofNat]
    exact Nat.mod_le _ _
  generalize (BitVec.ofInt IntKind.u32.bits g.lv &&& ~~~ BitVec.ofInt IntKind.u32.bits y).toNat = z at *
  rw [wu32 (by omega) (by omega)]
  omega
theorem cleanG_okG {g : Gut} (hk : okG g = true) (hg : g.In) (c : Nat) : okG (cleanG g c) = true := by
  have ho := okG_ok hk
  have hn := ho.n
  have hl := lvC_le hg.lv c
  unfold okG at *
  simp only [Bool.and_eq_true] at hk ⊢
  obtain ⟨⟨h1, h2⟩, h3⟩ := hk
  refine ⟨⟨?_, h2⟩, h3⟩
  unfold okG0 at *
  simp only [Bool.and_eq_true, beq_iff_eq] at h1 ⊢
  refine ⟨⟨h1.1.1, ?_⟩, h1.2⟩
  have h0 := h1.1.2
  show (lvC g c).fdiv (2 ^ (min g.n.toNat IntKind.u32.bits)) = 0
  obtain ⟨x, hx⟩ := eq_toNat hg.lv.1
  obtain ⟨y, hy⟩ := eq_toNat hl.1
  rw [hx] at h0
  rw [hy]
  rw [Int.fdiv_eq_ediv_of_nonneg _ (by exact Int.le_of_lt (Int.pow_pos (by omega)))] at h0 ⊢
  have h4 : ((x / 2 ^ (min g.n.toNat IntKind.u32.bits) : Nat) : Int) = 0 := by rw [← h0]; push_cast; rfl
  have h5 : y / 2 ^ (min g.n.toNat IntKind.u32.bits) ≤ x / 2 ^ (min g.n.toNat IntKind.u32.bits) := Nat.div_le_div_right (by omega)
  have h7 : (y : Int) / 2 ^ (min g.n.toNat IntKind.u32.bits) = ((y / 2 ^ (min g.n.toNat IntKind.u32.bits) : Nat) : Int) := by push_cast; rfl
  rw [h7]
  generalize y / 2 ^ (min g.n.toNat IntKind.u32.bits) = Y at *
  generalize x / 2 ^ (min g.n.toNat IntKind.u32.bits) = X at *
  omega
theorem un_has {g : Gut} {k : Nat} (hk : (k : Int) < g.n) : ((List.range (unL g).length).any fun i => ix (toI (unL g)) i == (k : Int)) = !hasB g (endP g k) := by
  rw [Bool.eq_iff_iff, List.any_eq_true]
  have hm : k ∈ unL g ↔ hasB g (endP g k) = false := by
    unfold unL
    simp only [List.mem_filter, List.mem_range, Bool.not_eq_true']
    exact ⟨fun h => h.2, fun h => ⟨by omega, h⟩⟩
  rw [Bool.not_eq_true', ← hm]
  constructor
  · rintro ⟨i, hi, h⟩
    rw [List.mem_range] at hi
    rw [toI_ix hi] at h
    have h' : ((nx (unL g) i : Nat) : Int) = k := by simpa using h
    have : nx (unL g) i = k := by omega
    rw [← this]
    unfold nx
    rw [List.getD_eq_getElem?_getD, List.getElem?_eq_getElem hi]
    exact List.getElem_mem _
  · intro h
    obtain ⟨i, hi, e⟩ := List.getElem_of_mem h
    refine ⟨i, by simpa using hi, ?_⟩
    rw [toI_ix hi]
    unfold nx
    rw [List.getD_eq_getElem?_getD, List.getElem?_eq_getElem hi]
    simp [e]
theorem clean_all {g : Gut} (hk : okG g = true) (hg : g.In) {xs : List Int} (hr : rainB g xs = true) (c : Nat) : allK (cleanG g c) (fun _ => 0) xs 20 = 0 ∧ allO (cleanG g c) (fun _ => 0) xs 20 = clO g xs 20 c := by
  have ho := okG_ok hk
  have h1 : allK (cleanG g c) (fun _ => 0) xs 20 = 0 := by
    have hw : okW17 (cleanG g c) (fun _ => 0) = true := by
      unfold okW17
      rw [cleanG_okG hk hg, Bool.true_and, List.all_eq_true]
      intro i hi
      have hd := ho.dp
      show ((decide ((0 : Int) ≤ 0) && decide ((0 : Int) ≤ g.dp)) && (decide ((i : Int) < g.n) || ((0 : Int) == 0))) = true
      simp; omega
    unfold allK wetK
    rw [if_pos hw, if_pos (by rw [show rainB (cleanG g c) xs = rainB g xs from rfl, hr]; rfl)]
  refine ⟨h1, ?_⟩
  unfold allO
  rw [if_pos h1]; rfl
theorem bc_is {g : Gut} (hk : okG g = true) (hg : g.In) {xs : List Int} (hr : rainB g xs = true) :
    (g.lv = 0 ∧ bcV g xs 20 = .tup [.v (.int .i64 0), .v (.int .i64 0), .v (.int .i64 6)]) ∨
    (g.lv ≠ 0 ∧ ∃ c : Nat, (c : Int) < g.n ∧ leafB g c = true ∧ bcV g xs 20 = .tup [.v (.int .i64 (c : Int)), .v (.int .i64 (clO g xs 20 c)), .v (.int .i64 0)]) := by
  have ho := okG_ok hk
  have hn := ho.n
  have hA : bcA g xs 20 = 0 := by
    unfold bcA askG
    rw [if_pos hk, if_pos (by rw [hr]; rfl)]
  have hany := leaf_any hk hg.lv
  by_cases h0 : g.lv = 0
  · left
    have hz : (lvs g g.n.toNat).length = 0 := by
      have : ¬ 0 < (lvs g g.n.toNat).length := fun h => hany.1 h h0
      omega
    exact ⟨h0, bcV_err (by unfold bcK; rw [if_pos hA, if_pos hz]) (by decide)⟩
  · right
    have hp := hany.2 h0
    obtain ⟨c, hc, e⟩ := bst_mem (F := clO g xs 20) hp
    have hK : bcK g xs 20 = 0 := by unfold bcK; rw [if_pos hA, if_neg (by omega)]
    refine ⟨h0, c, ?_, ?_, ?_⟩
    · have := lvs_lt hc; omega
    · unfold lvs at hc; simp at hc; exact hc.2
    · unfold bcV bcB
      rw [if_pos hK, hK, show (20 : Int).toNat = 20 from rfl, e]
end Go.V
/- Gutters that slope to pipes: the program's side. -/
set_option linter.unusedVariables false
set_option linter.unusedSimpArgs false
set_option maxRecDepth 4000
namespace Go.V
/- Words for the walks of this text: their default arguments are tried where they are used. -/
theorem go_E43 {P Q : Prop} (k : Q) (h : P := by first | exact Nat.le_of_ble_eq_true rfl | exact trivial | exact gutE_lt (by omega) | exact rfl | decide | omega | (simp [splice]; done) | (constructor <;> omega) | (simp [splice]; omega)) : P ∧ Q := ⟨h, k⟩
theorem lk_E43 {α : Type} {o : Option α} {K : α → Prop} {x : α} (k : K x) (h : o = some x := by first | exact hDA (by omega) | exact hDA' (by omega) | exact gutA (by omega) | exact pipeA (by omega) | exact pipeB (by omega) | exact pipeSA (by omega) | exact pipeSB (by omega) | exact intA (by omega) | exact intA' (by omega)) : optK o K := optK_of h k
theorem sc_E43 {P : Program} {g : FuncId} {args args' : List D} {res : D} (h : Sat P g args res) (e : args' = args := by repeat (first | rfl | exact vfull (by first | (simp [splice]; done) | (simp [splice]; omega)) | exact rfull (by first | (simp [splice]; done) | (simp [splice]; omega)) | exact vpipe (by simp; done) (by omega) | exact vsplice (by simp) (by simp) | refine ceq ?_ ?_ | refine Eq.trans (vsplice (by first | (simp; done) | (simp; omega)) (by first | (simp; done) | (simp; omega))) ?_)) : Sat P g args' res := Sat.of_eq h e
theorem leaf_E43 {P : Prop} (h : P := by first | rfl | exact succ8 (by omega) | exact succ64 (by omega) | exact CapOk.fn (by assumption) _ _ | exact vintS (by omega) | exact vintS (by rw [w64 (by omega) (by omega)]; omega) | exact vintS (by rw [w8 (by omega) (by omega)]; omega) | exact vslcS (by omega) | exact vslcS (by simp)) : P := h
theorem okt_E43 {P : Prop} (h : P := by first | omega | (dsimp only; omega) | ((repeat' apply And.intro) <;> omega) | (dsimp only; (repeat' apply And.intro) <;> omega) | trivial) : P := h
end Go.V
namespace Go.V
theorem ix_append_last (xs : List Int) (x : Int) : ix (xs ++ [x]) xs.length = x := by unfold ix; simp
theorem ix_append_left {xs : List Int} {x : Int} {i : Nat} (h : i < xs.length) : ix (xs ++ [x]) i = ix xs i := by
  unfold ix; rw [List.getD_eq_getElem?_getD, List.getD_eq_getElem?_getD, List.getElem?_append_left h]
theorem farL_ix {ps : List (Int × Int)} {c i : Nat} (h : i < ps.length) : ix (farL ps c ps.length) i = farI c (px ps i).1 := by
  unfold farL ix px
  rw [List.take_length, List.getD_eq_getElem?_getD, List.getElem?_map, List.getD_eq_getElem?_getD]
  simp [h]
theorem far_min (ps : List (Int × Int)) (c : Nat) : ix (farL ps c ps.length ++ [9]) (am (ix (farL ps c ps.length ++ [9])) ps.length) = slH ps c := by
  have hl := farL_len (c := c) (Nat.le_refl ps.length)
  have h1 := am_min (ix (farL ps c ps.length ++ [9])) ps.length
  have h2 := am_le (ix (farL ps c ps.length ++ [9])) ps.length
  have e9 : ix (farL ps c ps.length ++ [9]) ps.length = 9 := by
    have := ix_append_last (farL ps c ps.length) 9
    rw [hl] at this; exact this
  have ei : ∀ i, i < ps.length → ix (farL ps c ps.length ++ [9]) i = farI c (px ps i).1 := fun i hi => by
    rw [ix_append_left (by rw [hl]; exact hi), farL_ix hi]
  obtain ⟨f1, f2, f3⟩ := slF_le c ps 9
  have hpx : ∀ i, i < ps.length → px ps i ∈ ps := fun i hi => by
    unfold px
    rw [List.getD_eq_getElem?_getD, List.getElem?_eq_getElem hi]
    exact List.getElem_mem hi
  have f1' : slH ps c ≤ 9 := f1
  have f2' : ∀ q ∈ ps, slH ps c ≤ farI c q.1 := f2
  have f3' : slH ps c = 9 ∨ ∃ q ∈ ps, slH ps c = farI c q.1 := f3
  generalize slH ps c = z at *
  refine Int.le_antisymm ?_ ?_
  · rcases f3' with e | ⟨q, hq, e⟩
    · have := h1 ps.length (Nat.le_refl _); rw [e9] at this; omega
    · obtain ⟨i, hi, rfl⟩ := List.getElem_of_mem hq
      have := h1 i (by omega)
      rw [ei i hi] at this
      have e3 : px ps i = ps[i] := by unfold px; rw [List.getD_eq_getElem?_getD, List.getElem?_eq_getElem hi]; rfl
      rw [e3] at this
      omega
  · rcases Nat.lt_or_ge (am (ix (farL ps c ps.length ++ [9])) ps.length) ps.length with h | h
    · rw [ei _ h]; exact f2' _ (hpx _ h)
    · rw [show am (ix (farL ps c ps.length ++ [9])) ps.length = ps.length by omega, e9]; exact f1'
end Go.V
namespace Go.Proofs.Ytcnenmcagkbppaa
open Go.V
theorem implSlope_sat (n dp : Int) (ps : List (Int × Int)) (hn : 1 ≤ n ∧ n ≤ 17) (hd : 0 ≤ dp ∧ dp ≤ 1000) (hg : (Gut.mk n dp (fun _ => 0) 0 ps).In) (hk : okG (Gut.mk n dp (fun _ => 0) 0 ps) = true) (hps : ps ≠ []) (m : Bool) :
    Sat Try.prog 19 [.v (.int .i64 n), .v (.int .i64 dp), pipesD m ps] (.tup [gutD true (slG n dp ps), .v (.int .i64 0)]) := by
  have ho := okG_ok hk
  have hpl : ps.length ≤ 4 := ho.len
  have hpp : ∀ i, i < ps.length → (0 ≤ (px ps i).1 ∧ (px ps i).1 ≤ n - 1) := fun i hi => (ho.ps i hi).1
  have sO := validGutter_sat _ hg
  rw [hk] at sO
  have e : List.take (ps.length * 2) (List.drop 0 (pipesC ps)) = pipesC ps := take_drop0 (by simp)
  have sO' : Sat Try.prog 34 [.agg (gutE n dp 0 (fun _ => 0) (.row false 2 (.v (.agg ⟨List.take (ps.length * 2) (List.drop 0 (pipesC ps))⟩)) ps.length))] (.v (.bool true)) := by rw [e]; exact sO
  have sI : Sat Try.prog 55 [.v (.int .i64 n), .v (.int .i64 1), .v (.int .i64 17)] (.v (.bool true)) := by
    have := within64_sat n 1 17
    rw [show (decide (1 ≤ n) && decide (n ≤ 17)) = true by simp; omega] at this
    exact this
  have sD := isDeep64_sat dp
  rw [show deepB dp = true by unfold deepB; simp; omega] at sD
  have sE := fun (c : Nat) (h : c < 17) => eachP8_sat ps hpl (fun i hi => by have := hpp i hi; omega) c h false
  have sM : ∀ c : Nat, Sat Try.prog 58 [i8D false (farL ps c ps.length ++ [9])] (.v (.int .i8 (slH ps c))) := fun c => by
    have hl := farL_len (c := c) (Nat.le_refl ps.length)
    have := min8_sat (farL ps c ps.length ++ [9]) (by simp; omega) (by simp) false
    rw [show (farL ps c ps.length ++ [(9 : Int)]).length - 1 = ps.length by simp [hl], far_min] at this
    exact this
  refine sat_of_wp hMix tOk Try.func19 rfl rfl Try.ntmps19 rfl rfl Try.results19 (by kernel_rfl) ?_
  conv => whnf
  repeat (first | (refine go_E43 ?_; conv => whnf) | (refine lk_E43 ?_; conv => whnf))
  first | refine ⟨_, _, rfl, sc_E43 (sI), ?_⟩ | refine .inl ⟨_, _, rfl, sc_E43 (sI), ?_⟩
  conv => whnf
  repeat (first | (refine go_E43 ?_; conv => whnf) | (refine lk_E43 ?_; conv => whnf))
  first | refine ⟨_, _, rfl, sc_E43 (sD), ?_⟩ | refine .inl ⟨_, _, rfl, sc_E43 (sD), ?_⟩
  conv => whnf
  repeat (first | (refine go_E43 ?_; conv => whnf) | (refine lk_E43 ?_; conv => whnf))
  rw [show IntKind.i8.wrap n = n from w8 (by omega) (by omega), show IntKind.i16.wrap dp = dp from w16 (by omega) (by omega)]
  first | refine ⟨_, _, rfl, sc_E43 (clone_sat ps hpl), ?_⟩ | refine .inl ⟨_, _, rfl, sc_E43 (clone_sat ps hpl), ?_⟩
  conv => whnf
  repeat (first | (refine go_E43 ?_; conv => whnf) | (refine lk_E43 ?_; conv => whnf))
  first | refine ⟨_, _, rfl, sc_E43 (sO'), ?_⟩ | refine .inl ⟨_, _, rfl, sc_E43 (sO'), ?_⟩
  conv => whnf
  repeat (first | (refine go_E43 ?_; conv => whnf) | (refine lk_E43 ?_; conv => whnf))
  rw [show ((ps.length : Int) == 0) = false by have : 0 < ps.length := List.length_pos_iff.2 hps; simp; omega]
  conv => whnf
  repeat (first | (refine go_E43 ?_; conv => whnf) | (refine lk_E43 ?_; conv => whnf))
  refine loop_rule (α := Nat) (fun k => [(2, pipesD m ps), (6, .ptr (6, 0, 0) 0), (8, .ptr (8, 0, 0) 0), (37, .v (.int .i8 n)), (38, .v (.int .i8 k))]) (fun k => [((6, 0, 0), .v (.agg ⟨[.int .i8 0, .int .i16 0] ++ List.replicate 17 (.int .i8 0) ++ [.int .u32 0, .slice none 0 0]⟩)), ((8, 0, 0), .agg (gutE n dp 0 (slK ps k) (.slc true 2 (24, 0, 0) 0 ps.length))), ((24, 0, 0), .v (.agg ⟨pipesC ps⟩))]) (fun k => k ≤ n.toNat) (fun k => n.toNat - k) (0) ?_ (sim_of (rn := [((6, 0, 0), (6, 0, 0)), ((8, 0, 0), (8, 0, 0)), ((24, 0, 0), (24, 0, 0))]) rfl ?_ ?_) ?_
  · exact okt_E43
  · ((repeat' (first | exact trivial | apply And.intro)) <;> (first | rfl | (first | exact vintS (w8 (by omega) (by omega)) | exact vintS (w8 (by omega) (by omega)).symm) | exact leaf_E43))
  · ((repeat' (first | exact trivial | apply And.intro)) <;> ((first | refine ⟨_, _, rfl, rfl, ?_⟩ ); rfl))
  intro k hk
  conv => whnf
  repeat (first | (refine go_E43 ?_; conv => whnf) | (refine lk_E43 ?_; conv => whnf))
  cases h : decide ((k : Int) < n)
  · have hkn : k = n.toNat := by simp at h; omega
    subst hkn
    conv => whnf
    repeat (first | (refine go_E43 ?_; conv => whnf) | (refine lk_E43 ?_; conv => whnf))
    first | refine ⟨rfl, _, rfl, ?_⟩ | refine ⟨_, rfl, ?_⟩
    skip
    have e2 : List.take (ps.length * 2) (List.drop 0 (pipesC ps)) = pipesC ps := take_drop0 (by simp)
    refine Eq.trans (b := one' [.agg (gutE n dp 0 (slK ps n.toNat) (.row true 2 (.v (.agg ⟨List.take (ps.length * 2) (List.drop 0 (pipesC ps))⟩)) ps.length)), .v (.int .i64 0)]) ?_ rfl
    rw [e2, ← slK_all (dp := dp) (by omega)]; rfl
  have hkn : (k : Int) < n := by simpa using h
  have hfl := farL_len (c := k) (Nat.le_refl ps.length)
  have hs := slH_in ps k
  have e2 : i8L (farL ps k ps.length) ++ [.int .i8 9] = i8L (farL ps k ps.length ++ [9]) := i8L_snoc _ _
  have setA : (gutE n dp 0 (slK ps k) (.slc true 2 (24, 0, 0) 0 ps.length)).set (0 + 2 + (k : Int).toNat * 1) (.v (.int .i8 (slH ps k))) = gutE n dp 0 (slK ps (k + 1)) (.slc true 2 (24, 0, 0) 0 ps.length) := by
    rw [gutE_set (k := k) (by omega) (by simp), slK_put]
  conv => whnf
  repeat (first | (refine go_E43 ?_; conv => whnf) | (refine lk_E43 ?_; conv => whnf))
  first | refine ⟨_, _, rfl, sc_E43 (sE k (by omega)), ?_⟩ | refine .inl ⟨_, _, rfl, sc_E43 (sE k (by omega)), ?_⟩
  conv => whnf
  repeat (first | (refine go_E43 ?_; conv => whnf) | (refine lk_E43 ?_; conv => whnf))
  have sM' : Sat Try.prog 58 [.row false 1 (.v (.agg ⟨List.take (((farL ps k ps.length).length + 1) * 1) (List.drop 0 (i8L (farL ps k ps.length) ++ [.int .i8 9]))⟩)) ((farL ps k ps.length).length + 1)] (.v (.int .i8 (slH ps k))) := by
    rw [e2, take_drop0 (by simp)]
    have := sM k
    unfold i8D at this
    rw [show (farL ps k ps.length ++ [(9 : Int)]).length = (farL ps k ps.length).length + 1 by simp] at this
    exact this
  first | refine ⟨_, _, rfl, sc_E43 (sM'), ?_⟩ | refine .inl ⟨_, _, rfl, sc_E43 (sM'), ?_⟩
  conv => whnf
  repeat (first | (refine go_E43 ?_; conv => whnf) | (refine lk_E43 ?_; conv => whnf))
  refine ⟨k + 1, ?_, ?_, sim_of (rn := [((6, 0, 0), (6, 0, 0)), ((8, 0, 0), (8, 0, 0)), ((24, 0, 0), (24, 0, 0))]) rfl ?_ ?_⟩
  · (dsimp only; omega)
  · exact okt_E43
  · ((repeat' (first | exact trivial | apply And.intro)) <;> (first | rfl | (first | exact vintS (w8 (by omega) (by omega)) | exact vintS (w8 (by omega) (by omega)).symm) | exact leaf_E43))
  · ((repeat' (first | exact trivial | apply And.intro)) <;> ((first | refine ⟨_, _, rfl, rfl, ?_⟩ ); first | rfl | (exact congrArg (fun l => some (D.agg l)) setA)))
end Go.Proofs.Ytcnenmcagkbppaa
/- Gutters compared; gutters that slope to no pipe. -/
set_option linter.unusedVariables false
set_option linter.unusedSimpArgs false
set_option maxRecDepth 4000
namespace Go.V
/- Words for the walks of this text: their default arguments are tried where they are used. -/
theorem go_E45 {P Q : Prop} (k : Q) (h : P := by first | exact Nat.le_of_ble_eq_true rfl | exact trivial | exact gutE_lt (by omega) | exact rfl | decide | omega | (simp [splice]; done) | (constructor <;> omega) | (simp [splice]; omega)) : P ∧ Q := ⟨h, k⟩
theorem lk_E45 {α : Type} {o : Option α} {K : α → Prop} {x : α} (k : K x) (h : o = some x := by first | exact hDA (by omega) | exact hDA' (by omega) | exact gutA (by omega) | exact pipeA (by omega) | exact pipeB (by omega) | exact pipeSA (by omega) | exact pipeSB (by omega) | exact intA (by omega) | exact intA' (by omega)) : optK o K := optK_of h k
theorem sc_E45 {P : Program} {g : FuncId} {args args' : List D} {res : D} (h : Sat P g args res) (e : args' = args := by repeat (first | rfl | exact vfull (by first | (simp [splice]; done) | (simp [splice]; omega)) | exact rfull (by first | (simp [splice]; done) | (simp [splice]; omega)) | exact vpipe (by simp; done) (by omega) | exact vsplice (by simp) (by simp) | refine ceq ?_ ?_ | refine Eq.trans (vsplice (by first | (simp; done) | (simp; omega)) (by first | (simp; done) | (simp; omega))) ?_)) : Sat P g args' res := Sat.of_eq h e
theorem hold_E45 {P : Prop} (h : P := by (repeat' (first | exact trivial | apply And.intro)) <;> (first | rfl | exact succ8 (by omega) | exact succ64 (by omega) | exact CapOk.fn (by assumption) _ _ | exact vintS (by omega) | exact vintS (by rw [w64 (by omega) (by omega)]; omega) | exact vintS (by rw [w8 (by omega) (by omega)]; omega) | exact vslcS (by omega) | exact vslcS (by simp))) : P := h
theorem okt_E45 {P : Prop} (h : P := by first | omega | (dsimp only; omega) | ((repeat' apply And.intro) <;> omega) | (dsimp only; (repeat' apply And.intro) <;> omega) | trivial) : P := h
end Go.V
namespace Go.V
def h17 (h : Nat → Int) : List Value := [.int .i8 (h 0), .int .i8 (h 1), .int .i8 (h 2), .int .i8 (h 3), .int .i8 (h 4), .int .i8 (h 5), .int .i8 (h 6), .int .i8 (h 7), .int .i8 (h 8), .int .i8 (h 9), .int .i8 (h 10), .int .i8 (h 11), .int .i8 (h 12), .int .i8 (h 13), .int .i8 (h 14), .int .i8 (h 15), .int .i8 (h 16)]
theorem i8wf {z : Int} (h : -128 ≤ z ∧ z ≤ 127) : (Lit.int .i8 z).wf = true := by
  simp [Lit.wf, IntKind.min, IntKind.max, IntKind.bits, IntKind.signed]; omega
theorem i16wf {z : Int} (h : -32768 ≤ z ∧ z ≤ 32767) : (Lit.int .i16 z).wf = true := by
  simp [Lit.wf, IntKind.min, IntKind.max, IntKind.bits, IntKind.signed]; omega
end Go.V
namespace Go.Proofs.Ytcnenmcagkbppaa
open Go.V
theorem eqAgg_h17 {h : Nat → Int} (hh : ∀ i, -128 ≤ h i ∧ h i ≤ 127) {xs ys : List Value} (hx : xs = h17 h) (hy : ys = h17 h) : EqAgg Try.prog 26 xs ys true := by
  subst hx hy
  have fit : ∀ (i : Nat) (x : Value), (h17 h)[i]? = some x → ∃ z, x = Value.int .i8 z ∧ (Lit.int .i8 z).wf = true := by
    intro i x hx
    have hm := List.mem_of_getElem? hx
    unfold h17 at hm
    simp only [List.mem_cons, List.not_mem_nil, or_false] at hm
    rcases hm with e | e | e | e | e | e | e | e | e | e | e | e | e | e | e | e | e <;> exact ⟨_, e, i8wf (hh _)⟩
  have cells : ∀ x ∈ h17 h, IntCell x := by
    intro x hx
    obtain ⟨i, hi⟩ := List.getElem?_of_mem hx
    obtain ⟨z, rfl, hz⟩ := fit i x hi
    exact hz
  have hc : Program.cellsOf Try.prog 26 = 17 := by kernel_rfl
  have fm : Value.formed Try.prog 26 (.agg ⟨h17 h⟩) = true := by
    unfold Value.formed
    rw [Try.underlying26]
    simp [hc, h17]
  have kl : Program.keyLits Try.prog 2 26 (h17 h) = some (litsOf (h17 h)) :=
    keyLits_ints (d := 0) Try.underlying26 Try.underlying24 (by kernel_rfl) hc rfl fit
  exact eqAgg_of (m := 2) (by omega) (by kernel_rfl) (by kernel_rfl) fm fm kl kl cells cells (by simp)
theorem eqAgg_pipe {q : Int × Int} (h : (-128 ≤ q.1 ∧ q.1 ≤ 127) ∧ (-32768 ≤ q.2 ∧ q.2 ≤ 32767)) {xs ys : List Value} (hx : xs = [.int .i8 q.1, .int .i16 q.2]) (hy : ys = [.int .i8 q.1, .int .i16 q.2]) : EqAgg Try.prog 41 xs ys true := by
  subst hx hy
  have hc : Program.cellsOf Try.prog 41 = 2 := by kernel_rfl
  have hc1 : Program.cellsOf Try.prog 24 = 1 := by kernel_rfl
  have hc2 : Program.cellsOf Try.prog 25 = 1 := by kernel_rfl
  have fm : Value.formed Try.prog 41 (.agg ⟨[.int .i8 q.1, .int .i16 q.2]⟩) = true := by
    unfold Value.formed
    rw [Try.underlying41]
    simp [hc]
  have cells : ∀ x ∈ [Value.int .i8 q.1, Value.int .i16 q.2], IntCell x := by
    intro x hx
    simp only [List.mem_cons, List.not_mem_nil, or_false] at hx
    rcases hx with rfl | rfl
    · exact i8wf h.1
    · exact i16wf h.2
  have kl : Program.keyLits Try.prog 2 41 [.int .i8 q.1, .int .i16 q.2] = some (litsOf [.int .i8 q.1, .int .i16 q.2]) := by
    refine keyLits_struct (d := 1) Try.underlying41 (by rw [hc]; rfl) (by kernel_rfl) (fun f hf => ?_) ?_
    · simp only [List.mem_cons, List.not_mem_nil, or_false] at hf
      rcases hf with rfl | rfl
      · rw [hc1]; exact Go.V.keyLits_int (P := Try.prog) (d := 0) (e := 24) (k := .i8) (z := q.1) Try.underlying24 (i8wf h.1)
      · rw [hc2]; exact Go.V.keyLits_int (P := Try.prog) (d := 0) (e := 25) (k := .i16) (z := q.2) Try.underlying25 (i16wf h.2)
    · simp [hc1, hc2]
  exact eqAgg_of (m := 3) (by omega) (by kernel_rfl) (by kernel_rfl) fm fm kl kl cells cells (by simp)
theorem sameGutter_sat (g : Gut) (hg : g.In) (hl : g.ps.length ≤ 1000) : Sat Try.prog 21 [gutD false g, gutD false g] (.v (.bool true)) := by
  refine sat_of_wp hMix tOk Try.func21 rfl rfl Try.ntmps21 rfl rfl Try.results21 (by kernel_rfl) ?_
  conv => whnf
  repeat (first | (refine go_E45 ?_; conv => whnf) | (refine lk_E45 ?_; conv => whnf))
  rw [show (g.n != g.n) = false by simp]
  conv => whnf
  repeat (first | (refine go_E45 ?_; conv => whnf) | (refine lk_E45 ?_; conv => whnf))
  rw [show (g.dp != g.dp) = false by simp]
  conv => whnf
  repeat (first | (refine go_E45 ?_; conv => whnf) | (refine lk_E45 ?_; conv => whnf))
  refine ⟨h17 g.h, h17 g.h, true, rfl, rfl, eqAgg_h17 hg.h rfl rfl, ?_⟩
  conv => whnf
  repeat (first | (refine go_E45 ?_; conv => whnf) | (refine lk_E45 ?_; conv => whnf))
  rw [show (g.lv != g.lv) = false by simp]
  conv => whnf
  repeat (first | (refine go_E45 ?_; conv => whnf) | (refine lk_E45 ?_; conv => whnf))
  rw [show ((g.ps.length : Int) != (g.ps.length : Int)) = false by simp]
  conv => whnf
  repeat (first | (refine go_E45 ?_; conv => whnf) | (refine lk_E45 ?_; conv => whnf))
  refine loop_rule (α := Nat) (fun i => [(2, .ptr (2, 0, 0) 0), (3, .ptr (3, 0, 0) 0), (5, .v (.int .i64 i))]) (fun i => [((2, 0, 0), gutD false g), ((3, 0, 0), gutD false g)]) (fun i => i ≤ g.ps.length) (fun i => g.ps.length - i) (0) ?_ (sim_of (rn := [((2, 0, 0), (2, 0, 0)), ((3, 0, 0), (3, 0, 0))]) rfl ?_ ?_) ?_
  · exact okt_E45
  · exact hold_E45
  · ((repeat' (first | exact trivial | apply And.intro)) <;> ((first | refine ⟨_, _, rfl, rfl, ?_⟩ ); rfl))
  intro i hi
  conv => whnf
  repeat (first | (refine go_E45 ?_; conv => whnf) | (refine lk_E45 ?_; conv => whnf))
  cases h : decide ((i : Int) < (g.ps.length : Int))
  · conv => whnf
    repeat (first | (refine go_E45 ?_; conv => whnf) | (refine lk_E45 ?_; conv => whnf))
    first | refine ⟨rfl, _, rfl, ?_⟩ | refine ⟨_, rfl, ?_⟩
    rfl
  have hin : i < g.ps.length := by simpa using h
  have ep : List.take 2 (List.drop ((i : Int).toNat * 2) (pipesC g.ps)) = [.int .i8 (px g.ps i).1, .int .i16 (px g.ps i).2] := by rw [show (i : Int).toNat * 2 = i * 2 by simp]; exact pipe_sub hin
  conv => whnf
  repeat (first | (refine go_E45 ?_; conv => whnf) | (refine lk_E45 ?_; conv => whnf))
  refine ⟨true, eqAgg_pipe (hg.ps i hin) ep ep, ?_⟩
  conv => whnf
  repeat (first | (refine go_E45 ?_; conv => whnf) | (refine lk_E45 ?_; conv => whnf))
  refine ⟨i + 1, ?_, ?_, sim_of (rn := [((2, 0, 0), (2, 0, 0)), ((3, 0, 0), (3, 0, 0))]) rfl ?_ ?_⟩
  · (dsimp only; omega)
  · exact okt_E45
  · exact hold_E45
  · ((repeat' (first | exact trivial | apply And.intro)) <;> ((first | refine ⟨_, _, rfl, rfl, ?_⟩ ); rfl))
theorem sameGutter0_sat : Sat Try.prog 21 [.v (.agg ⟨[.int .i8 0, .int .i16 0] ++ List.replicate 17 (.int .i8 0) ++ [.int .u32 0, .slice none 0 0]⟩), .v (.agg ⟨[.int .i8 0, .int .i16 0] ++ List.replicate 17 (.int .i8 0) ++ [.int .u32 0, .slice none 0 0]⟩)] (.v (.bool true)) := by
  refine sat_of_wp hMix tOk Try.func21 rfl rfl Try.ntmps21 rfl rfl Try.results21 (by kernel_rfl) ?_
  conv => whnf
  repeat (first | (refine go_E45 ?_; conv => whnf) | (refine lk_E45 ?_; conv => whnf))
  refine ⟨true, eqAgg_h17 (h := fun _ => 0) (fun _ => by omega) rfl rfl, ?_⟩
  conv => whnf
  repeat (first | (refine go_E45 ?_; conv => whnf) | (refine lk_E45 ?_; conv => whnf))
  refine loop_rule (α := Nat) (fun i => [(2, .ptr (2, 0, 0) 0), (3, .ptr (3, 0, 0) 0), (5, .v (.int .i64 0))]) (fun i => [((2, 0, 0), .v (.agg ⟨[.int .i8 0, .int .i16 0] ++ List.replicate 17 (.int .i8 0) ++ [.int .u32 0, .slice none 0 0]⟩)), ((3, 0, 0), .v (.agg ⟨[.int .i8 0, .int .i16 0] ++ List.replicate 17 (.int .i8 0) ++ [.int .u32 0, .slice none 0 0]⟩))]) (fun i => i = 0) (fun i => i) (0) ?_ (sim_of (rn := [((2, 0, 0), (2, 0, 0)), ((3, 0, 0), (3, 0, 0))]) rfl ?_ ?_) ?_
  · exact okt_E45
  · exact hold_E45
  · ((repeat' (first | exact trivial | apply And.intro)) <;> ((first | refine ⟨_, _, rfl, rfl, ?_⟩ ); rfl))
  intro i hi
  conv => whnf
  repeat (first | (refine go_E45 ?_; conv => whnf) | (refine lk_E45 ?_; conv => whnf))
  first | refine ⟨rfl, _, rfl, ?_⟩ | refine ⟨_, rfl, ?_⟩
  rfl
theorem implSlope0_sat (n dp : Int) (hn : 1 ≤ n ∧ n ≤ 17) (hd : 0 ≤ dp ∧ dp ≤ 1000) (hg : (Gut.mk n dp (fun _ => 0) 0 []).In) (hk : okG (Gut.mk n dp (fun _ => 0) 0 []) = true) (m : Bool) :
    Sat Try.prog 19 [.v (.int .i64 n), .v (.int .i64 dp), pipesD m []] (.tup [.v (.agg ⟨[.int .i8 0, .int .i16 0] ++ List.replicate 17 (.int .i8 0) ++ [.int .u32 0, .slice none 0 0]⟩), .v (.int .i64 6)]) := by
  have sO := validGutter_sat _ hg
  rw [hk] at sO
  have e : List.take (([] : List (Int × Int)).length * 2) (List.drop 0 (pipesC [])) = pipesC [] := take_drop0 (by simp)
  have sO' : Sat Try.prog 34 [.agg (gutE n dp 0 (fun _ => 0) (.row false 2 (.v (.agg ⟨List.take (([] : List (Int × Int)).length * 2) (List.drop 0 (pipesC []))⟩)) ([] : List (Int × Int)).length))] (.v (.bool true)) := by rw [e]; exact sO
  have sI : Sat Try.prog 55 [.v (.int .i64 n), .v (.int .i64 1), .v (.int .i64 17)] (.v (.bool true)) := by
    have := within64_sat n 1 17
    rw [show (decide (1 ≤ n) && decide (n ≤ 17)) = true by simp; omega] at this
    exact this
  have sD := isDeep64_sat dp
  rw [show deepB dp = true by unfold deepB; simp; omega] at sD
  refine sat_of_wp hMix tOk Try.func19 rfl rfl Try.ntmps19 rfl rfl Try.results19 (by kernel_rfl) ?_
  conv => whnf
  repeat (first | (refine go_E45 ?_; conv => whnf) | (refine lk_E45 ?_; conv => whnf))
  first | refine ⟨_, _, rfl, sc_E45 (sI), ?_⟩ | refine .inl ⟨_, _, rfl, sc_E45 (sI), ?_⟩
  conv => whnf
  repeat (first | (refine go_E45 ?_; conv => whnf) | (refine lk_E45 ?_; conv => whnf))
  first | refine ⟨_, _, rfl, sc_E45 (sD), ?_⟩ | refine .inl ⟨_, _, rfl, sc_E45 (sD), ?_⟩
  conv => whnf
  repeat (first | (refine go_E45 ?_; conv => whnf) | (refine lk_E45 ?_; conv => whnf))
  rw [show IntKind.i8.wrap n = n from w8 (by omega) (by omega), show IntKind.i16.wrap dp = dp from w16 (by omega) (by omega)]
  first | refine ⟨_, _, rfl, sc_E45 (clone_sat [] (by simp)), ?_⟩ | refine .inl ⟨_, _, rfl, sc_E45 (clone_sat [] (by simp)), ?_⟩
  conv => whnf
  repeat (first | (refine go_E45 ?_; conv => whnf) | (refine lk_E45 ?_; conv => whnf))
  first | refine ⟨_, _, rfl, sc_E45 (sO'), ?_⟩ | refine .inl ⟨_, _, rfl, sc_E45 (sO'), ?_⟩
  conv => whnf
  repeat (first | (refine go_E45 ?_; conv => whnf) | (refine lk_E45 ?_; conv => whnf))
  first | refine ⟨rfl, _, rfl, ?_⟩ | refine ⟨_, rfl, ?_⟩
  rfl
theorem specSlope0_sat (n dp : Int) (hn : 1 ≤ n ∧ n ≤ 17) (hd : 0 ≤ dp ∧ dp ≤ 1000) (hg : (Gut.mk n dp (fun _ => 0) 0 []).In) (hk : okG (Gut.mk n dp (fun _ => 0) 0 []) = true) (m : Bool) :
    Sat Try.prog 20 [.v (.int .i64 n), .v (.int .i64 dp), pipesD m []] (.tup [.v (.agg ⟨[.int .i8 0, .int .i16 0] ++ List.replicate 17 (.int .i8 0) ++ [.int .u32 0, .slice none 0 0]⟩), .v (.int .i64 6)]) := by
  have sO := l06Ok_sat _ hg
  rw [hk] at sO
  have e : List.take ((0 + ([] : List (Int × Int)).length) * 2) (List.drop 0 ([] ++ pipesC [])) = pipesC [] := take_drop0 (by simp)
  have sO' : Sat Try.prog 39 [.ref false (.agg (gutE n dp 0 (fun _ => 0) (.row false 2 (.v (.agg ⟨List.take ((0 + ([] : List (Int × Int)).length) * 2) (List.drop 0 ([] ++ pipesC []))⟩)) (0 + ([] : List (Int × Int)).length)))) 0] (.v (.bool true)) := by rw [e]; exact sO
  have sI : Sat Try.prog 61 [.v (.int .i64 n), .v (.int .i64 1), .v (.int .i64 17)] (.v (.bool true)) := by
    have := l00In_sat n 1 17
    rw [show (decide (n ≥ 1) && decide (n ≤ 17)) = true by simp; omega] at this
    exact this
  have sD := l06Deep_sat dp
  rw [show deepB dp = true by unfold deepB; simp; omega] at sD
  refine sat_of_wp hMix tOk Try.func20 rfl rfl Try.ntmps20 rfl rfl Try.results20 (by kernel_rfl) ?_
  conv => whnf
  repeat (first | (refine go_E45 ?_; conv => whnf) | (refine lk_E45 ?_; conv => whnf))
  first | refine ⟨_, _, rfl, sc_E45 (sI), ?_⟩ | refine .inl ⟨_, _, rfl, sc_E45 (sI), ?_⟩
  conv => whnf
  repeat (first | (refine go_E45 ?_; conv => whnf) | (refine lk_E45 ?_; conv => whnf))
  first | refine ⟨_, _, rfl, sc_E45 (sD), ?_⟩ | refine .inl ⟨_, _, rfl, sc_E45 (sD), ?_⟩
  conv => whnf
  repeat (first | (refine go_E45 ?_; conv => whnf) | (refine lk_E45 ?_; conv => whnf))
  rw [show IntKind.i8.wrap n = n from w8 (by omega) (by omega), show IntKind.i16.wrap dp = dp from w16 (by omega) (by omega)]
  first | refine ⟨_, _, rfl, sc_E45 (sO'), ?_⟩ | refine .inl ⟨_, _, rfl, sc_E45 (sO'), ?_⟩
  conv => whnf
  repeat (first | (refine go_E45 ?_; conv => whnf) | (refine lk_E45 ?_; conv => whnf))
  first | refine ⟨rfl, _, rfl, ?_⟩ | refine ⟨_, rfl, ?_⟩
  rfl
end Go.Proofs.Ytcnenmcagkbppaa
/- The law on pipes: words for the walk. -/
set_option linter.unusedVariables false
set_option linter.unusedSimpArgs false
set_option maxRecDepth 4000
namespace Go.V
/- Words for the walks of this text: their default arguments are tried where they are used. -/
theorem go_E46 {P Q : Prop} (k : Q) (h : P := by first | exact Nat.le_of_ble_eq_true rfl | exact trivial | exact rfl | decide | omega | (simp [splice]; done) | (constructor <;> omega) | (simp [splice]; omega)) : P ∧ Q := ⟨h, k⟩
theorem lk_E46 {α : Type} {o : Option α} {K : α → Prop} {x : α} (k : K x) (h : o = some x := by first | exact u8A (by omega) | exact u8A' (by omega) | exact hDA (by omega) | exact hDA' (by omega) | exact gutA (by omega) | exact pipeA (by omega) | exact pipeB (by omega) | exact pipeSA (by omega) | exact pipeSB (by omega) | exact intA (by omega) | exact intA' (by omega)) : optK o K := optK_of h k
end Go.V
namespace Go.V
theorem flL_ix {g : Gut} {n k : Nat} (h : k < n) : ix (flL g n) k = toP g k := by
  unfold ix flL
  rw [List.getD_eq_getElem?_getD, List.getElem?_map, List.getElem?_range h]; rfl
theorem onP_in {g : Gut} (hg : g.In) {L : List Nat} (hn : g.n ≤ 100) (hm : ∀ c ∈ L, (c : Int) < g.n) (hl : L.length ≤ 1000) : (onP g L).In := by
  refine ⟨hg.n, hg.dp, hg.h, hg.lv, fun i hi => ?_, by show (L.map fun (c : Nat) => ((c : Int), (1 : Int))).length ≤ _; simp; omega⟩
  have hi' : i < L.length := by simpa [onP] using hi
  have hp : px (onP g L).ps i = (((L.getD i 0 : Nat) : Int), (1 : Int)) := by
    unfold px onP
    rw [List.getD_eq_getElem?_getD, List.getElem?_map, List.getD_eq_getElem?_getD]
    simp [hi']
  rw [hp]
  have hmi : L.getD i 0 ∈ L := by rw [List.getD_eq_getElem?_getD, List.getElem?_eq_getElem hi']; exact List.getElem_mem hi'
  have := hm _ hmi
  dsimp only
  omega
theorem smB_le {g : Gut} (hn : g.n ≤ 17) : ∀ k, smB g k ≤ 17 * k
  | 0 => by simp [smB]
  | k + 1 => by
    have ih := smB_le hn k
    have : (bsL g k).length ≤ 17 := by
      have := List.length_filter_le (fun c => decide (endP g c = k)) (List.range g.n.toNat)
      unfold bsL; simp at this; omega
    rw [smB]; omega
theorem slope_hyp {g : Gut} (hk : okG g = true) (hg : g.In) : (Gut.mk g.n g.dp (fun _ => 0) 0 g.ps).In ∧ okG (Gut.mk g.n g.dp (fun _ => 0) 0 g.ps) = true := by
  refine ⟨⟨hg.n, hg.dp, fun _ => by show -128 ≤ (0 : Int) ∧ (0 : Int) ≤ 127; omega, by show (0 : Int) ≤ 0 ∧ (0 : Int) ≤ 4294967295; omega, hg.ps, hg.len⟩, ?_⟩
  unfold okG at *
  simp only [Bool.and_eq_true] at hk ⊢
  obtain ⟨⟨h1, h2⟩, h3⟩ := hk
  refine ⟨⟨?_, ?_⟩, h3⟩
  · unfold okG0 at *
    simp only [Bool.and_eq_true, beq_iff_eq] at h1 ⊢
    exact ⟨⟨h1.1.1, Int.zero_fdiv _⟩, h1.2⟩
  · rw [List.all_eq_true]
    intro i _
    unfold hOk
    simp
theorem pipesC_take : ∀ (ps : List (Int × Int)) (k : Nat), (pipesC ps).take (k * 2) = pipesC (ps.take k)
  | [], k => by simp [pipesC_nil]
  | q :: ps, 0 => by simp [pipesC_nil]
  | q :: ps, k + 1 => by
    rw [pipesC_cons, show (k + 1) * 2 = k * 2 + 1 + 1 by omega, List.take_succ_cons, List.take_succ_cons, pipesC_take ps k, List.take_succ_cons, pipesC_cons]
theorem pipesC_drop : ∀ (ps : List (Int × Int)) (k : Nat), (pipesC ps).drop (k * 2) = pipesC (ps.drop k)
  | [], k => by simp [pipesC_nil]
  | q :: ps, 0 => by simp
  | q :: ps, k + 1 => by
    rw [pipesC_cons, show (k + 1) * 2 = k * 2 + 1 + 1 by omega, List.drop_succ_cons, List.drop_succ_cons, pipesC_drop ps k, List.drop_succ_cons]
theorem onP_less (g : Gut) {L : List Nat} {i : Nat} (hi : i < L.length) : List.take (((0 + i) + (L.length - (i + 1))) * 2) (List.drop 0 (([] ++ List.take (i * 2) (List.drop (0 + 0 * 2) (pipesC (onP g L).ps))) ++ List.take ((L.length - (i + 1)) * 2) (List.drop (0 + (i + 1) * 2) (pipesC (onP g L).ps)))) = pipesC (onP g (L.take i ++ L.drop (i + 1))).ps := by
  have h1 : (onP g (L.take i ++ L.drop (i + 1))).ps = (onP g L).ps.take i ++ (onP g L).ps.drop (i + 1) := by unfold onP; dsimp only; rw [List.map_append, List.map_take, List.map_drop]
  have hl : (onP g L).ps.length = L.length := by simp [onP]
  rw [h1]
  generalize (onP g L).ps = ps at *
  rw [Nat.zero_add, Nat.zero_add, Nat.zero_add, Nat.zero_mul, List.drop_zero, List.drop_zero, List.nil_append, pipesC_take, pipesC_drop, take_full (n := (L.length - (i + 1)) * 2) (by simp; omega), ← pipesC_append]
  exact take_full (by simp; omega)
theorem slG_in {n dp : Int} {ps : List (Int × Int)} (h : (Gut.mk n dp (fun _ => 0) 0 ps).In) : (slG n dp ps).In := ⟨h.n, h.dp, fun k => by
    have := slH_in ps k
    unfold slG; dsimp only; split <;> omega, by show (0 : Int) ≤ 0 ∧ (0 : Int) ≤ 4294967295; omega, h.ps, h.len⟩
theorem slG_okG {n dp : Int} {ps : List (Int × Int)} (h : okG (Gut.mk n dp (fun _ => 0) 0 ps) = true) : okG (slG n dp ps) = true := by
  unfold okG at *
  simp only [Bool.and_eq_true] at h ⊢
  refine ⟨⟨h.1.1, ?_⟩, h.2⟩
  rw [List.all_eq_true]
  intro k _
  have := slH_in ps k
  unfold hOk slG
  dsimp only
  by_cases hk : (k : Int) < n
  · simp [hk]; omega
  · simp [hk]
theorem pipes_cell {g : Gut} (ho : g.Ok) : ∀ q ∈ g.ps, 0 ≤ q.1 ∧ q.1 < g.n := by
  intro q hq
  obtain ⟨i, hi, rfl⟩ := List.getElem_of_mem hq
  have := (ho.ps i hi).1
  unfold px at this
  rw [List.getD_eq_getElem?_getD, List.getElem?_eq_getElem hi, Option.getD_some] at this
  omega
end Go.V
namespace Go.Proofs.Ytcnenmcagkbppaa
open Go.V
theorem f6big_sat (xs : List Int) (m : Bool) : Sat Try.prog 4 [u8D m xs] (.v (.bool (decide ((xs.length : Int) > 4096)))) := by
  refine sat_of_wp hMix tOk Try.func4 rfl rfl Try.ntmps4 rfl rfl Try.results4 (by kernel_rfl) ?_
  conv => whnf
  repeat (first | (refine go_E46 ?_; conv => whnf) | (refine lk_E46 ?_; conv => whnf))
  first | refine ⟨rfl, _, rfl, ?_⟩ | refine ⟨_, rfl, ?_⟩
  rfl
end Go.Proofs.Ytcnenmcagkbppaa
/- The law on pipes: what is cleaned best. -/
set_option linter.unusedVariables false
set_option linter.unusedSimpArgs false
set_option maxRecDepth 4000
namespace Go.V
/- Words for the walks of this text: their default arguments are tried where they are used. -/
theorem go_E47 {P Q : Prop} (k : Q) (h : P := by first | exact Nat.le_of_ble_eq_true rfl | exact trivial | exact rfl | decide | omega | (simp [splice]; done) | (constructor <;> omega) | (simp [splice]; omega)) : P ∧ Q := ⟨h, k⟩
theorem lk_E47 {α : Type} {o : Option α} {K : α → Prop} {x : α} (k : K x) (h : o = some x := by first | exact u8A (by omega) | exact u8A' (by omega) | exact hDA (by omega) | exact hDA' (by omega) | exact gutA (by omega) | exact pipeA (by omega) | exact pipeB (by omega) | exact pipeSA (by omega) | exact pipeSB (by omega) | exact intA (by omega) | exact intA' (by omega)) : optK o K := optK_of h k
theorem sc_E47 {P : Program} {g : FuncId} {args args' : List D} {res : D} (h : Sat P g args res) (e : args' = args := by repeat (first | rfl | exact vfull (by first | (simp [splice]; done) | (simp [splice]; omega)) | exact rfull (by first | (simp [splice]; done) | (simp [splice]; omega)) | exact vzero17 | exact vpipe (by simp; done) (by omega) | exact vsplice (by simp) (by simp) | refine ceq ?_ ?_ | refine Eq.trans (vsplice (by first | (simp; done) | (simp; omega)) (by first | (simp; done) | (simp; omega))) ?_)) : Sat P g args' res := Sat.of_eq h e
end Go.V
namespace Go.Proofs.Ytcnenmcagkbppaa
open Go.V
set_option maxHeartbeats 4000000 in
theorem pipesB (g : Gut) (hok : okG g = true) (hg : g.In) (rs : List Int) (hr : rainB g rs = true) : wp Try.prog tt (tailC 19 (codeOf Try.func3)) (bodyQ tt #[ResultVar.tmp 4].toList (.v (.bool true))) (stOf [(5, .ptr (5, 0, 0) 0), (6, .slc true 1 (77, 0, 0) 0 rs.length)] [((5, 0, 0), gutD true g), ((77, 0, 0), .v (.agg ⟨intsC rs⟩))]) := by
  have ho := okG_ok hok
  have hn := ho.n
  have hpl := ho.len
  have hrx := rainB_ok hr
  have hrl := hrx.len
  rcases bc_is hok hg hr with ⟨h0, eBC⟩ | ⟨h0, c, hcn, hcl, eBC⟩
  · have sC1 := bestClean_sat g hg rs (by omega) 20 false
    have sC2 := specBestClean_sat g hg rs (by omega) 20 false
    rw [eBC] at sC1 sC2
    conv => whnf
    repeat (first | (refine go_E47 ?_; conv => whnf) | (refine lk_E47 ?_; conv => whnf))
    first | refine ⟨_, _, rfl, sc_E47 (sC1), ?_⟩ | refine .inl ⟨_, _, rfl, sc_E47 (sC1), ?_⟩
    conv => whnf
    repeat (first | (refine go_E47 ?_; conv => whnf) | (refine lk_E47 ?_; conv => whnf))
    first | refine ⟨_, _, rfl, sc_E47 (sC2), ?_⟩ | refine .inl ⟨_, _, rfl, sc_E47 (sC2), ?_⟩
    conv => whnf
    repeat (first | (refine go_E47 ?_; conv => whnf) | (refine lk_E47 ?_; conv => whnf))
    rw [show (g.lv != 0) = false by simp [h0]]
    conv => whnf
    repeat (first | (refine go_E47 ?_; conv => whnf) | (refine lk_E47 ?_; conv => whnf))
    first | refine ⟨rfl, _, rfl, ?_⟩ | refine ⟨_, rfl, ?_⟩
    rfl
  · have sC1 := bestClean_sat g hg rs (by omega) 20 false
    have sC2 := specBestClean_sat g hg rs (by omega) 20 false
    rw [eBC] at sC1 sC2
    have sL1 := implCleanLeaf_sat g hg hok c hcn hcl
    have sL2 := specCleanLeaf_sat g hg hok c hcn hcl
    have sA := minutesAll_sat (cleanG g c) (cleanG_in hg c) (fun _ => 0) (by refine ⟨fun i => ?_⟩; omega) rs (by omega) 20 false
    unfold minsV at sA
    rw [(clean_all hok hg hr c).1, (clean_all hok hg hr c).2] at sA
    have sSG := sameGutter_sat (cleanG g c) (cleanG_in hg c) (by show g.ps.length ≤ 1000; omega)
    generalize clO g rs 20 c = z at *
    generalize allW (cleanG g c) (fun _ => 0) rs 20 = W at *
    generalize allT (cleanG g c) (fun _ => 0) rs 20 = TT at *
    conv => whnf
    repeat (first | (refine go_E47 ?_; conv => whnf) | (refine lk_E47 ?_; conv => whnf))
    first | refine ⟨_, _, rfl, sc_E47 (sC1), ?_⟩ | refine .inl ⟨_, _, rfl, sc_E47 (sC1), ?_⟩
    conv => whnf
    repeat (first | (refine go_E47 ?_; conv => whnf) | (refine lk_E47 ?_; conv => whnf))
    first | refine ⟨_, _, rfl, sc_E47 (sC2), ?_⟩ | refine .inl ⟨_, _, rfl, sc_E47 (sC2), ?_⟩
    conv => whnf
    repeat (first | (refine go_E47 ?_; conv => whnf) | (refine lk_E47 ?_; conv => whnf))
    rw [show ((c : Int) != (c : Int)) = false by simp]
    conv => whnf
    repeat (first | (refine go_E47 ?_; conv => whnf) | (refine lk_E47 ?_; conv => whnf))
    rw [show (z != z) = false by simp]
    conv => whnf
    repeat (first | (refine go_E47 ?_; conv => whnf) | (refine lk_E47 ?_; conv => whnf))
    rw [show (g.lv != 0) = true by simp [h0]]
    conv => whnf
    repeat (first | (refine go_E47 ?_; conv => whnf) | (refine lk_E47 ?_; conv => whnf))
    first | refine ⟨_, _, rfl, sc_E47 (sL1), ?_⟩ | refine .inl ⟨_, _, rfl, sc_E47 (sL1), ?_⟩
    conv => whnf
    repeat (first | (refine go_E47 ?_; conv => whnf) | (refine lk_E47 ?_; conv => whnf))
    first | refine ⟨_, _, rfl, sc_E47 (sL2), ?_⟩ | refine .inl ⟨_, _, rfl, sc_E47 (sL2), ?_⟩
    conv => whnf
    repeat (first | (refine go_E47 ?_; conv => whnf) | (refine lk_E47 ?_; conv => whnf))
    first | refine ⟨_, _, rfl, sc_E47 (sA), ?_⟩ | refine .inl ⟨_, _, rfl, sc_E47 (sA), ?_⟩
    conv => whnf
    repeat (first | (refine go_E47 ?_; conv => whnf) | (refine lk_E47 ?_; conv => whnf))
    rw [show (((cleanG g c).ps.length : Int) == ((cleanG g c).ps.length : Int)) = true by simp]
    conv => whnf
    repeat (first | (refine go_E47 ?_; conv => whnf) | (refine lk_E47 ?_; conv => whnf))
    first | refine ⟨_, _, rfl, sc_E47 (sSG), ?_⟩ | refine .inl ⟨_, _, rfl, sc_E47 (sSG), ?_⟩
    conv => whnf
    repeat (first | (refine go_E47 ?_; conv => whnf) | (refine lk_E47 ?_; conv => whnf))
    rw [show (z == z) = true by simp]
    conv => whnf
    repeat (first | (refine go_E47 ?_; conv => whnf) | (refine lk_E47 ?_; conv => whnf))
    first | refine ⟨rfl, _, rfl, ?_⟩ | refine ⟨_, rfl, ?_⟩
    rfl
end Go.Proofs.Ytcnenmcagkbppaa
/- The law on pipes: slopes and the least pail. -/
set_option linter.unusedVariables false
set_option linter.unusedSimpArgs false
set_option maxRecDepth 4000
namespace Go.V
/- Words for the walks of this text: their default arguments are tried where they are used. -/
theorem go_E48 {P Q : Prop} (k : Q) (h : P := by first | exact Nat.le_of_ble_eq_true rfl | exact trivial | exact rfl | decide | omega | (simp [splice]; done) | (constructor <;> omega) | (simp [splice]; omega)) : P ∧ Q := ⟨h, k⟩
theorem lk_E48 {α : Type} {o : Option α} {K : α → Prop} {x : α} (k : K x) (h : o = some x := by first | exact u8A (by omega) | exact u8A' (by omega) | exact hDA (by omega) | exact hDA' (by omega) | exact gutA (by omega) | exact pipeA (by omega) | exact pipeB (by omega) | exact pipeSA (by omega) | exact pipeSB (by omega) | exact intA (by omega) | exact intA' (by omega)) : optK o K := optK_of h k
theorem sc_E48 {P : Program} {g : FuncId} {args args' : List D} {res : D} (h : Sat P g args res) (e : args' = args := by repeat (first | rfl | exact vfull (by first | (simp [splice]; done) | (simp [splice]; omega)) | exact rfull (by first | (simp [splice]; done) | (simp [splice]; omega)) | exact vzero17 | exact vpipe (by simp; done) (by omega) | exact vsplice (by simp) (by simp) | refine ceq ?_ ?_ | refine Eq.trans (vsplice (by first | (simp; done) | (simp; omega)) (by first | (simp; done) | (simp; omega))) ?_)) : Sat P g args' res := Sat.of_eq h e
theorem hold_E48 {P : Prop} (h : P := by (repeat' (first | exact trivial | apply And.intro)) <;> (first | rfl | exact succ8 (by omega) | exact succ64 (by omega) | exact CapOk.fn (by assumption) _ _ | exact vintS (by omega) | exact vintS (by rw [w64 (by omega) (by omega)]; omega) | exact vintS (by rw [w8 (by omega) (by omega)]; omega) | exact vslcS (by omega) | exact vslcS (by simp))) : P := h
end Go.V
namespace Go.Proofs.Ytcnenmcagkbppaa
open Go.V
set_option maxHeartbeats 4000000 in
theorem pipesA (g : Gut) (hok : okG g = true) (hg : g.In) (hn9 : g.n ≤ 9) (ys : List Int) (hy : Bytes ys) (hyl : ys.length ≤ 4096) (rs : List Int) (hr : rainB g rs = true) : cuts Try.prog tt [4] (tailC 15 (codeOf Try.func3)) (bodyQ tt #[ResultVar.tmp 4].toList (.v (.bool true))) (stOf [(1, u8D false ys), (5, .ptr (5, 0, 0) 0), (6, .slc true 1 (77, 0, 0) 0 rs.length)] [((5, 0, 0), gutD true g), ((77, 0, 0), .v (.agg ⟨intsC rs⟩))]) := by
  have ho := okG_ok hok
  have hn := ho.n
  have hpl := ho.len
  have hrx := rainB_ok hr
  have hrl := hrx.len
  have en : IntKind.i64.wrap g.n = g.n := w64 (by omega) (by omega)
  have ed : IntKind.i64.wrap g.dp = g.dp := w64 (by have := ho.dp; omega) (by have := ho.dp; omega)
  have hsl := slope_hyp hok hg
  by_cases hps : g.ps = []
  · have sS1 := implSlope0_sat g.n g.dp hn ho.dp (by rw [← hps]; exact hsl.1) (by rw [← hps]; exact hsl.2) false
    have sS2 := specSlope0_sat g.n g.dp hn ho.dp (by rw [← hps]; exact hsl.1) (by rw [← hps]; exact hsl.2) false
    rw [← hps] at sS1 sS2
    have hl0 : g.ps.length = 0 := by rw [hps]; rfl
    conv => whnf
    repeat (first | (refine go_E48 ?_; conv => whnf) | (refine lk_E48 ?_; conv => whnf))
    rw [en, ed]
    first | refine ⟨_, _, rfl, sc_E48 (sS1), ?_⟩ | refine .inl ⟨_, _, rfl, sc_E48 (sS1), ?_⟩
    conv => whnf
    repeat (first | (refine go_E48 ?_; conv => whnf) | (refine lk_E48 ?_; conv => whnf))
    rw [en, ed]
    first | refine ⟨_, _, rfl, sc_E48 (sS2), ?_⟩ | refine .inl ⟨_, _, rfl, sc_E48 (sS2), ?_⟩
    conv => whnf
    repeat (first | (refine go_E48 ?_; conv => whnf) | (refine lk_E48 ?_; conv => whnf))
    first | refine ⟨_, _, rfl, sc_E48 (sameGutter0_sat), ?_⟩ | refine .inl ⟨_, _, rfl, sc_E48 (sameGutter0_sat), ?_⟩
    conv => whnf
    repeat (first | (refine go_E48 ?_; conv => whnf) | (refine lk_E48 ?_; conv => whnf))
    rw [show decide ((g.ps.length : Int) > 0) = false by rw [hl0]; rfl]
    conv => whnf
    repeat (first | (refine go_E48 ?_; conv => whnf) | (refine lk_E48 ?_; conv => whnf))
    refine ⟨stOf [(5, .ptr (5, 0, 0) 0), (6, .slc true 1 (77, 0, 0) 0 rs.length)] [((5, 0, 0), gutD true g), ((77, 0, 0), .v (.agg ⟨intsC rs⟩))], sim_of (rn := [((5, 0, 0), (5, 0, 0)), ((77, 0, 0), (77, 0, 0))]) rfl ?_ ?_, ?_⟩
    · exact hold_E48
    · ((repeat' (first | exact trivial | apply And.intro)) <;> ((first | refine ⟨_, _, rfl, rfl, ?_⟩ ); rfl))
    exact pipesB g hok hg rs hr
  have hl1 : 0 < g.ps.length := List.length_pos_iff.2 hps
  have sS1 := implSlope_sat g.n g.dp g.ps hn ho.dp hsl.1 hsl.2 hps false
  have sS2 := specSlope_sat g.n g.dp g.ps hn ho.dp hsl.1 hsl.2 hps false
  have hSk := slG_okG hsl.2
  have hSi := slG_in hsl.1
  have sSG := sameGutter_sat _ hSi (by show g.ps.length ≤ 1000; omega)
  have sSU := undrained_sat _ hSi hSk
  rw [slope_dry ⟨hn.1, hn9⟩ (pipes_cell ho) hps] at sSU
  have hpk := pkV_in hy (n := (g.ps.length : Int)) (by omega) s0
  have sPk := p6Pick_sat ys hy hyl (g.ps.length : Int) (by omega) false
  obtain ⟨p, hp⟩ := eq_toNat hpk.1
  rw [hp] at sPk hpk
  have hpl2 : p < g.ps.length := by omega
  have sT1 := implLeast_sat g hg hok rs hr p hpl2 false
  have sT2 := specLeast_sat g hg hok rs hr p hpl2 false
  conv => whnf
  repeat (first | (refine go_E48 ?_; conv => whnf) | (refine lk_E48 ?_; conv => whnf))
  rw [en, ed]
  first | refine ⟨_, _, rfl, sc_E48 (sS1), ?_⟩ | refine .inl ⟨_, _, rfl, sc_E48 (sS1), ?_⟩
  conv => whnf
  repeat (first | (refine go_E48 ?_; conv => whnf) | (refine lk_E48 ?_; conv => whnf))
  rw [en, ed]
  first | refine ⟨_, _, rfl, sc_E48 (sS2), ?_⟩ | refine .inl ⟨_, _, rfl, sc_E48 (sS2), ?_⟩
  conv => whnf
  repeat (first | (refine go_E48 ?_; conv => whnf) | (refine lk_E48 ?_; conv => whnf))
  rw [show (((slG g.n g.dp g.ps).ps.length : Int) != ((slG g.n g.dp g.ps).ps.length : Int)) = false by simp]
  conv => whnf
  repeat (first | (refine go_E48 ?_; conv => whnf) | (refine lk_E48 ?_; conv => whnf))
  first | refine ⟨_, _, rfl, sc_E48 (sSG), ?_⟩ | refine .inl ⟨_, _, rfl, sc_E48 (sSG), ?_⟩
  conv => whnf
  repeat (first | (refine go_E48 ?_; conv => whnf) | (refine lk_E48 ?_; conv => whnf))
  rw [show decide ((g.ps.length : Int) > 0) = true by simp; omega]
  conv => whnf
  repeat (first | (refine go_E48 ?_; conv => whnf) | (refine lk_E48 ?_; conv => whnf))
  first | refine ⟨_, _, rfl, sc_E48 (sSU), ?_⟩ | refine .inl ⟨_, _, rfl, sc_E48 (sSU), ?_⟩
  conv => whnf
  repeat (first | (refine go_E48 ?_; conv => whnf) | (refine lk_E48 ?_; conv => whnf))
  first | refine ⟨_, _, rfl, sc_E48 (sPk), ?_⟩ | refine .inl ⟨_, _, rfl, sc_E48 (sPk), ?_⟩
  conv => whnf
  repeat (first | (refine go_E48 ?_; conv => whnf) | (refine lk_E48 ?_; conv => whnf))
  cases hlt : ltO g rs p with
  | none =>
    rw [hlt] at sT1 sT2
    first | refine ⟨_, _, rfl, sc_E48 (sT1), ?_⟩ | refine .inl ⟨_, _, rfl, sc_E48 (sT1), ?_⟩
    conv => whnf
    repeat (first | (refine go_E48 ?_; conv => whnf) | (refine lk_E48 ?_; conv => whnf))
    first | refine ⟨_, _, rfl, sc_E48 (sT2), ?_⟩ | refine .inl ⟨_, _, rfl, sc_E48 (sT2), ?_⟩
    conv => whnf
    repeat (first | (refine go_E48 ?_; conv => whnf) | (refine lk_E48 ?_; conv => whnf))
    refine ⟨stOf [(5, .ptr (5, 0, 0) 0), (6, .slc true 1 (77, 0, 0) 0 rs.length)] [((5, 0, 0), gutD true g), ((77, 0, 0), .v (.agg ⟨intsC rs⟩))], sim_of (rn := [((5, 0, 0), (5, 0, 0)), ((77, 0, 0), (77, 0, 0))]) rfl ?_ ?_, ?_⟩
    · exact hold_E48
    · ((repeat' (first | exact trivial | apply And.intro)) <;> ((first | refine ⟨_, _, rfl, rfl, ?_⟩ ); rfl))
    exact pipesB g hok hg rs hr
  | some t =>
    rw [hlt] at sT1 sT2
    have ht1 : t < 1001 := by
      unfold ltO at hlt
      have := List.mem_of_find?_eq_some hlt
      simpa using this
    have hdry := lt_dry hlt
    have sFO := implFirstOver_sat (setT g p t) (setT_In hg hpl2 (by omega)) (setT_ok hok hpl2 (by omega)) rs hr false
    rw [hdry, gut_row, setT_len] at sFO
    first | refine ⟨_, _, rfl, sc_E48 (sT1), ?_⟩ | refine .inl ⟨_, _, rfl, sc_E48 (sT1), ?_⟩
    conv => whnf
    repeat (first | (refine go_E48 ?_; conv => whnf) | (refine lk_E48 ?_; conv => whnf))
    first | refine ⟨_, _, rfl, sc_E48 (sT2), ?_⟩ | refine .inl ⟨_, _, rfl, sc_E48 (sT2), ?_⟩
    conv => whnf
    repeat (first | (refine go_E48 ?_; conv => whnf) | (refine lk_E48 ?_; conv => whnf))
    rw [show ((t : Int) != (t : Int)) = false by simp]
    conv => whnf
    repeat (first | (refine go_E48 ?_; conv => whnf) | (refine lk_E48 ?_; conv => whnf))
    have hset := setT_set (g := g) (z := (px g.ps p).2) (t := (t : Int)) (o := 0 + (p : Int).toNat * 2 + 1) hpl2 (by simp)
    rw [setT_self hpl2] at hset
    have hstore : 0 + (p : Int).toNat * 2 + 1 < (pipesC g.ps).length := by rw [pipesC_len]; simp; omega
    have eA : List.take ((0 + g.ps.length) * 2) (List.drop 0 (([] ++ pipesC g.ps).set (0 + (p : Int).toNat * ti41.size + 1) (.int .i16 (IntKind.i16.wrap (t : Int))))) = List.take (g.ps.length * 2) (List.drop 0 (pipesC (setT g p t).ps)) := by
      rw [Nat.zero_add, List.nil_append, w16 (n := (t : Int)) (by omega) (by omega), ← hset]; rfl
    have sFO' : Sat Try.prog 25 [.agg (gutE g.n g.dp g.lv g.h (.row false 2 (.v (.agg ⟨List.take ((0 + g.ps.length) * 2) (List.drop 0 (([] ++ pipesC g.ps).set (0 + (p : Int).toNat * ti41.size + 1) (.int .i16 (IntKind.i16.wrap (t : Int)))))⟩)) (0 + g.ps.length))), intsD false rs] (.tup [.v (.int .i64 0), .v (.int .i64 6)]) := by rw [eA, Nat.zero_add]; exact sFO
    first | refine ⟨_, _, rfl, sc_E48 (sFO'), ?_⟩ | refine .inl ⟨_, _, rfl, sc_E48 (sFO'), ?_⟩
    conv => whnf
    repeat (first | (refine go_E48 ?_; conv => whnf) | (refine lk_E48 ?_; conv => whnf))
    refine ⟨stOf [(5, .ptr (5, 0, 0) 0), (6, .slc true 1 (77, 0, 0) 0 rs.length)] [((5, 0, 0), gutD true g), ((77, 0, 0), .v (.agg ⟨intsC rs⟩))], sim_of (rn := [((5, 0, 0), (5, 0, 0)), ((77, 0, 0), (77, 0, 0))]) rfl ?_ ?_, ?_⟩
    · exact hold_E48
    · ((repeat' (first | exact trivial | apply And.intro)) <;> ((first | refine ⟨_, _, rfl, rfl, ?_⟩ ); rfl))
    exact pipesB g hok hg rs hr
end Go.Proofs.Ytcnenmcagkbppaa
