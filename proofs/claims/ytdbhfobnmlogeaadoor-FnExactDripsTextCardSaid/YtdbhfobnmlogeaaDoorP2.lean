import Derived.Test.YtdbhfobnmlogeaaDoorP1
/- The text of drips, both sides, and the law. -/
set_option linter.unusedVariables false
set_option linter.unusedSimpArgs false
namespace Go.V
/- Words for the walks of this text: their default arguments are tried where they are used. -/
theorem go_F3 {P Q : Prop} (k : Q) (h : P := by first | exact strOk (by first | omega | (simp; omega)) | exact Nat.le_of_ble_eq_true rfl | exact rfl | decide | omega | (simp [splice]; done) | (constructor <;> omega) | (simp [splice]; omega)) : P ∧ Q := ⟨h, k⟩
theorem lk_F3 {α : Type} {o : Option α} {K : α → Prop} {x : α} (k : K x) (h : o = some x := by first | exact raiA (by omega) | exact raiA' (by omega) | exact watA (by omega) | exact watA' (by omega) | exact dripA (by omega) (by omega) | exact roofN (by omega) (by omega) | exact gridN (by omega) (by omega) | exact intA (by omega) | exact intA' (by omega)) : optK o K := optK_of h k
theorem sc_F3 {P : Program} {g : FuncId} {args args' : List D} {res : D} (h : Sat P g args res) (e : args' = args := by repeat (first | rfl | exact vfull (by first | (simp [splice]; done) | (simp [splice]; omega)) | exact rfull (by first | (simp [splice]; done) | (simp [splice]; omega)) | exact vdrow8 (by simp; done) (by omega) | exact vrow (by simp; done) (by omega) | exact vtiles (by simp) | exact vsplice (by simp) (by simp) | refine ceq ?_ ?_ | refine Eq.trans (vsplice (by first | (simp; done) | (simp; omega)) (by first | (simp; done) | (simp; omega))) ?_)) : Sat P g args' res := Sat.of_eq h e
theorem leaf_F3 {P : Prop} (h : P := by first | rfl | exact succ8 (by omega) | exact succ64 (by omega) | exact CapOk.fn (by assumption) _ _ | exact vintS (by omega) | exact vintS (by rw [w64 (by omega) (by omega)]; omega) | exact vintS (by rw [w8 (by omega) (by omega)]; omega) | exact vslcS (by omega) | exact vslcS (by simp)) : P := h
theorem hold_F3 {P : Prop} (h : P := by (repeat' (first | exact trivial | apply And.intro)) <;> (first | rfl | exact succ8 (by omega) | exact succ64 (by omega) | exact CapOk.fn (by assumption) _ _ | exact vintS (by omega) | exact vintS (by rw [w64 (by omega) (by omega)]; omega) | exact vintS (by rw [w8 (by omega) (by omega)]; omega) | exact vslcS (by omega) | exact vslcS (by simp))) : P := h
theorem okt_F3 {P : Prop} (h : P := by first | omega | (dsimp only; omega) | ((repeat' apply And.intro) <;> omega) | (dsimp only; (repeat' apply And.intro) <;> omega) | trivial) : P := h
end Go.V
namespace Go.V
/-- Drips of whatever size. -/
structure DrpIn (f : Tb) : Prop where
  t : ∀ i c, -2147483648 ≤ f i c ∧ f i c ≤ 2147483647
theorem vdrow8 {f : Tb} {o i : Nat} (ho : o = i * 17) (hi : i < 8) : D.v (.agg ⟨((dripC f).drop o).take 17⟩) = watD (f i) := by rw [drip_row ho hi]; rfl
/-- Rows as far as some course. -/
def cutD (f : Tb) (n : Nat) : Tb := fun i c => if i < n then f i c else 0
theorem cutD_zero (f : Tb) : dripC (cutD f 0) = List.replicate 136 (.int .i32 0) := by
  rw [← dripC_zero]; exact dripC_congr fun i c _ _ => by simp [cutD]
theorem cutD_all (f : Tb) : dripC (cutD f 8) = dripC f := dripC_congr fun i c hi _ => by simp [cutD, hi]
theorem cutD_put {f : Tb} {n o : Nat} (ho : o = n * 17) (hn : n < 8) : splice (dripC (cutD f n)) o (watC (f n)) = dripC (cutD f (n + 1)) := by
  subst ho
  unfold dripC watC
  rw [tab_splice (by omega)]
  apply tab_congr
  intro i hi
  by_cases h : n * 17 ≤ i ∧ i < n * 17 + 17
  · rw [if_pos h]
    simp only [cutD, show i / 17 = n by omega, show i - n * 17 = i % 17 by omega]
    rw [if_pos (by omega)]
  · rw [if_neg h]
    simp only [cutD]
    by_cases h2 : i / 17 < n
    · rw [if_pos h2, if_pos (by omega)]
    · rw [if_neg h2, if_neg (by omega)]
def insB (r : Roof) (i c : Nat) : Bool := decide ((i : Int) < r.h) && decide ((c : Int) < 2 * r.w + 1)
/-- One number of drips that have a text. -/
def okFc (r : Roof) (f : Tb) (k : Nat) : Bool := deepB (f (k / 17) (k % 17)) && (insB r (k / 17) (k % 17) || decide (f (k / 17) (k % 17) = 0))
def okF (r : Roof) (f : Tb) : Bool := (List.range 136).all (okFc r f)
theorem okF_yes {r : Roof} {f : Tb} (h : ∀ k, k < 136 → okFc r f k = true) : okF r f = true := by
  unfold okF; rw [List.all_eq_true]; intro k hk; exact h k (by simpa using hk)
theorem okF_no {r : Roof} {f : Tb} {k : Nat} (hk : k < 136) (h : okFc r f k = false) : okF r f = false := by
  unfold okF; rw [List.all_eq_false]; exact ⟨k, by simpa using hk, by simp [h]⟩
theorem okF_at {r : Roof} {f : Tb} (h : okF r f = true) {k : Nat} (hk : k < 136) : okFc r f k = true := by
  unfold okF at h; rw [List.all_eq_true] at h; exact h k (by simpa using hk)
theorem okF_in {r : Roof} {f : Tb} (h : okF r f = true) : ∀ k, k < 136 → 0 ≤ f (k / 17) (k % 17) ∧ f (k / 17) (k % 17) ≤ 1000 := fun k hk => by
  have := okF_at h hk
  unfold okFc deepB at this
  simp at this
  omega
/-- The word of one drip. -/
def dWd (f : Tb) (k : Nat) : List UInt8 := Lib.itoa ((k / 17 : Nat) : Int) ++ [58] ++ Lib.itoa ((k % 17 : Nat) : Int) ++ [61] ++ Lib.itoa (f (k / 17) (k % 17))
theorem dWd_bs {f : Tb} {k i c : Nat} (h1 : k / 17 = i) (h2 : k % 17 = c) : decB i ++ ⟨#[58]⟩ ++ decB c ++ ⟨#[61]⟩ ++ decB (f i c) = bsOf (dWd f k) := by
  subst h1 h2
  unfold dWd decB
  show bsOf _ ++ bsOf [58] ++ bsOf _ ++ bsOf [61] ++ bsOf _ = _
  rw [bs_append, bs_append, bs_append, bs_append]
/-- The words of the drips as far as some cell. -/
def dWs (f : Tb) : Nat → List (List UInt8)
  | 0 => []
  | k + 1 => if f (k / 17) (k % 17) = 0 then dWs f k else dWs f k ++ [dWd f k]
/-- The text of the drips as far as some cell. -/
def dtT (f : Tb) (k : Nat) : List UInt8 := Lib.join (dWs f k) [32]
theorem itoa_len {n : Int} (h : 0 ≤ n ∧ n ≤ 1000) : 1 ≤ (Lib.itoa n).length ∧ (Lib.itoa n).length ≤ 4 := decB_size h
theorem dWd_len {f : Tb} {k : Nat} (hk : k < 136) (h : 0 ≤ f (k / 17) (k % 17) ∧ f (k / 17) (k % 17) ≤ 1000) : 1 ≤ (dWd f k).length ∧ (dWd f k).length ≤ 14 := by
  have h1 := itoa_len (n := ((k / 17 : Nat) : Int)) (by omega)
  have h2 := itoa_len (n := ((k % 17 : Nat) : Int)) (by omega)
  have h3 := itoa_len h
  unfold dWd
  simp only [List.length_append, List.length_cons, List.length_nil]
  omega
theorem dWs_no {f : Tb} {k : Nat} (h : f (k / 17) (k % 17) = 0) : dWs f (k + 1) = dWs f k := by rw [dWs, if_pos h]
theorem dWs_yes {f : Tb} {k : Nat} (h : ¬ f (k / 17) (k % 17) = 0) : dWs f (k + 1) = dWs f k ++ [dWd f k] := by rw [dWs, if_neg h]
theorem dWs_len (f : Tb) : ∀ k, (dWs f k).length ≤ k
  | 0 => by simp [dWs]
  | k + 1 => by
    have := dWs_len f k
    rw [dWs]; split
    · omega
    · simp; omega
theorem dtT_len {f : Tb} (h : ∀ k, k < 136 → 0 ≤ f (k / 17) (k % 17) ∧ f (k / 17) (k % 17) ≤ 1000) : ∀ k, k ≤ 136 → (dtT f k).length ≤ k * 15 ∧ (dtT f k = [] ↔ dWs f k = [])
  | 0, _ => by simp [dtT, dWs, Lib.join_nil]
  | k + 1, hk => by
    obtain ⟨h1, h2⟩ := dtT_len h k (by omega)
    have h3 := dWd_len (by omega) (h k (by omega))
    by_cases h0 : f (k / 17) (k % 17) = 0
    · unfold dtT at *; rw [dWs_no h0]; exact ⟨by omega, h2⟩
    · unfold dtT at *
      rw [dWs_yes h0]
      by_cases hn : dWs f k = []
      · rw [hn]
        simp only [List.nil_append, Lib.join_one]
        refine ⟨by omega, by simp; intro e; rw [e] at h3; simp at h3⟩
      · rw [join_snoc hn]
        refine ⟨by simp; omega, by simp⟩
theorem dtT_no {f : Tb} {k : Nat} (h : f (k / 17) (k % 17) = 0) : dtT f (k + 1) = dtT f k := by unfold dtT; rw [dWs_no h]
theorem dtT_first {f : Tb} {k : Nat} (h : ¬ f (k / 17) (k % 17) = 0) (hn : dWs f k = []) : dtT f (k + 1) = dWd f k := by unfold dtT; rw [dWs_yes h, hn, List.nil_append, Lib.join_one]
theorem dtT_more {f : Tb} {k : Nat} (h : ¬ f (k / 17) (k % 17) = 0) (hn : ¬ dWs f k = []) : dtT f (k + 1) = dtT f k ++ [32] ++ dWd f k := by unfold dtT; rw [dWs_yes h, join_snoc hn, List.append_assoc]
theorem strsB_append (xs : List (List UInt8)) (x : List UInt8) : strsC (xs.map bsOf) ++ [.string (bsOf x)] = strsC ((xs ++ [x]).map bsOf) := by rw [List.map_append, strsC_append, List.map_singleton, strsC_one]
theorem join_bs (xs : List (List UInt8)) (sep : List UInt8) : Lib.join ((xs.map bsOf).map (·.data.toList)) sep = Lib.join xs sep := by
  rw [List.map_map]
  have : ((fun x : ByteArray => x.data.toList) ∘ bsOf) = id := by funext l; simp
  rw [this, List.map_id]
theorem rowcopy {f : Tb} {o i : Nat} {zs : List Value} (ho : o = i * 17) (hi : i < 8) (hz : zs.length = 17) : some (D.v (.agg ⟨((splice zs 0 (((dripC f).drop o).take 17)).drop 0).take 17⟩)) = some (watD (f i)) := by
  rw [drip_row ho hi, splice_all (by simpa using hz), take_drop0 (by simp)]; rfl
def dripText (r : Roof) (f : Tb) : ByteArray := if okR r = true then (if okF r f = true then bsOf (dtT f 136) else ⟨#[]⟩) else ⟨#[]⟩
end Go.V
namespace Go.Proofs.YtdbhfobnmlogeaaDoor
open Go.V
theorem toInt32A17_sat (w : Nat → Int) : Sat Tryd.prog 77 [watD w] (watD w) := by
  refine sat_of_wp hMix tOk Tryd.func77 rfl rfl Tryd.ntmps77 rfl rfl Tryd.results77 (by kernel_rfl) ?_
  conv => whnf
  repeat (first | (refine go_F3 ?_; conv => whnf) | (refine lk_F3 ?_; conv => whnf))
  refine loop_rule (α := Nat) (fun k => [(1, .ptr (1, 0, 0) 0), (2, .ptr (2, 0, 0) 0), (3, .ptr (3, 0, 0) 0), (4, .v (.int .i64 k))]) (fun k => [((1, 0, 0), watD w), ((2, 0, 0), .v (.agg ⟨List.replicate 17 (.int .i32 0)⟩)), ((3, 0, 0), .v (.agg ⟨watC (mix w (fun _ => 0) k)⟩))]) (fun k => k ≤ 17) (fun k => 17 - k) (0) ?_ (sim_of (rn := [((1, 0, 0), (1, 0, 0)), ((2, 0, 0), (2, 0, 0)), ((3, 0, 0), (3, 0, 0))]) rfl ?_ ?_) ?_
  · exact okt_F3
  · exact hold_F3
  · ((repeat' (first | exact trivial | apply And.intro)) <;> ((first | refine ⟨_, _, rfl, rfl, ?_⟩ ); first | rfl | (exact cset (by rw [mix_zero, watC_zero]))))
  intro k hk
  conv => whnf
  repeat (first | (refine go_F3 ?_; conv => whnf) | (refine lk_F3 ?_; conv => whnf))
  cases h1 : decide ((k : Int) < 17)
  · have hk17 : k = 17 := by simp at h1; omega
    subst hk17
    rw [wmix_all]
    conv => whnf
    repeat (first | (refine go_F3 ?_; conv => whnf) | (refine lk_F3 ?_; conv => whnf))
    first | refine ⟨rfl, _, rfl, ?_⟩ | refine ⟨_, rfl, ?_⟩
    skip
    exact (vsplice (by simp) (by simp)).symm.trans (congrArg (fun l => D.v (.agg ⟨List.take 17 (List.drop 0 (splice (List.replicate 17 (.int .i32 0)) 0 l))⟩)) (take_drop0 (by simp)).symm)
  have hk17 : k < 17 := by simp at h1; omega
  conv => whnf
  repeat (first | (refine go_F3 ?_; conv => whnf) | (refine lk_F3 ?_; conv => whnf))
  have setA : (watC (mix w (fun _ => 0) k)).set (0 + (k : Int).toNat * 1) (.int .i32 (w k)) = watC (mix w (fun _ => 0) (k + 1)) := by
    rw [show 0 + (k : Int).toNat * 1 = k by omega, wat_set rfl, mix_put]
  refine ⟨k + 1, ?_, ?_, sim_of (rn := [((1, 0, 0), (1, 0, 0)), ((2, 0, 0), (2, 0, 0)), ((3, 0, 0), (3, 0, 0))]) rfl ?_ ?_⟩
  · (dsimp only; omega)
  · exact okt_F3
  · exact hold_F3
  · ((repeat' (first | exact trivial | apply And.intro)) <;> ((first | refine ⟨_, _, rfl, rfl, ?_⟩ ); first | rfl | (exact cset setA)))
theorem toDrips_sat (f : Tb) : Sat Tryd.prog 24 [dripD f] (dripD f) := by
  refine sat_of_wp hMix tOk Tryd.func24 rfl rfl Tryd.ntmps24 rfl rfl Tryd.results24 (by kernel_rfl) ?_
  conv => whnf
  repeat (first | (refine go_F3 ?_; conv => whnf) | (refine lk_F3 ?_; conv => whnf))
  refine loop_rule (α := Nat) (fun k => [(1, .ptr (1, 0, 0) 0), (2, .ptr (2, 0, 0) 0), (3, .ptr (3, 0, 0) 0), (4, .v (.int .i64 k))]) (fun k => [((1, 0, 0), dripD f), ((2, 0, 0), .v (.agg ⟨List.replicate 136 (.int .i32 0)⟩)), ((3, 0, 0), .v (.agg ⟨dripC (cutD f k)⟩))]) (fun k => k ≤ 8) (fun k => 8 - k) (0) ?_ (sim_of (rn := [((1, 0, 0), (1, 0, 0)), ((2, 0, 0), (2, 0, 0)), ((3, 0, 0), (3, 0, 0))]) rfl ?_ ?_) ?_
  · exact okt_F3
  · exact hold_F3
  · ((repeat' (first | exact trivial | apply And.intro)) <;> ((first | refine ⟨_, _, rfl, rfl, ?_⟩ ); first | rfl | (exact cset (by rw [cutD_zero]))))
  intro k hk
  conv => whnf
  repeat (first | (refine go_F3 ?_; conv => whnf) | (refine lk_F3 ?_; conv => whnf))
  cases h1 : decide ((k : Int) < 8)
  · have hk8 : k = 8 := by simp at h1; omega
    subst hk8
    rw [cutD_all]
    conv => whnf
    repeat (first | (refine go_F3 ?_; conv => whnf) | (refine lk_F3 ?_; conv => whnf))
    first | refine ⟨rfl, _, rfl, ?_⟩ | refine ⟨_, rfl, ?_⟩
    skip
    exact (vsplice (by simp) (by simp)).symm.trans (congrArg (fun l => D.v (.agg ⟨List.take 136 (List.drop 0 (splice (List.replicate 136 (.int .i32 0)) 0 l))⟩)) (take_drop0 (by simp)).symm)
  have hk8 : k < 8 := by simp at h1; omega
  conv => whnf
  repeat (first | (refine go_F3 ?_; conv => whnf) | (refine lk_F3 ?_; conv => whnf))
  first | refine ⟨_, _, rfl, sc_F3 (toInt32A17_sat (f k)), ?_⟩ | refine .inl ⟨_, _, rfl, sc_F3 (toInt32A17_sat (f k)), ?_⟩
  conv => whnf
  repeat (first | (refine go_F3 ?_; conv => whnf) | (refine lk_F3 ?_; conv => whnf))
  refine ⟨k + 1, ?_, ?_, sim_of (rn := [((1, 0, 0), (1, 0, 0)), ((2, 0, 0), (2, 0, 0)), ((3, 0, 0), (3, 0, 0))]) rfl ?_ ?_⟩
  · (dsimp only; omega)
  · exact okt_F3
  · exact hold_F3
  · ((repeat' (first | exact trivial | apply And.intro)) <;> ((first | refine ⟨_, _, rfl, rfl, ?_⟩ ); first | rfl | (exact cset (cutD_put (by simp) hk8))))
theorem inside_sat (r : Roof) (hr : r.In) (hb : Rb r) (i c : Nat) (hi : i < 8) (hc : c < 17) : Sat Tryd.prog 132 [.ref false (roofD r) 0, .v (.int .i64 i), .v (.int .i64 c)] (.v (.bool (insB r i c))) := by
  have e3 : IntKind.i64.wrap r.h = r.h := w64 (by omega) (by omega)
  have e4 : IntKind.i64.wrap (c : Int) = c := w64 (by omega) (by omega)
  refine sat_of_wp hMix tOk Tryd.func132 rfl rfl Tryd.ntmps132 rfl rfl Tryd.results132 (by kernel_rfl) ?_
  conv => whnf
  repeat (first | (refine go_F3 ?_; conv => whnf) | (refine lk_F3 ?_; conv => whnf))
  rw [e3]
  cases h : decide ((i : Int) < r.h)
  · conv => whnf
    repeat (first | (refine go_F3 ?_; conv => whnf) | (refine lk_F3 ?_; conv => whnf))
    first | refine ⟨rfl, _, rfl, ?_⟩ | refine ⟨_, rfl, ?_⟩
    skip
    unfold insB; rw [h]; rfl
  conv => whnf
  repeat (first | (refine go_F3 ?_; conv => whnf) | (refine lk_F3 ?_; conv => whnf))
  first | refine ⟨_, _, rfl, sc_F3 (l01Cells_sat r hr hb), ?_⟩ | refine .inl ⟨_, _, rfl, sc_F3 (l01Cells_sat r hr hb), ?_⟩
  conv => whnf
  repeat (first | (refine go_F3 ?_; conv => whnf) | (refine lk_F3 ?_; conv => whnf))
  try rw [e4]
  conv => whnf
  repeat (first | (refine go_F3 ?_; conv => whnf) | (refine lk_F3 ?_; conv => whnf))
  first | refine ⟨rfl, _, rfl, ?_⟩ | refine ⟨_, rfl, ?_⟩
  skip
  unfold insB; rw [h]; rfl
theorem isCell_sat (r : Roof) (hr : r.In) (hb : Rb r) (i c : Nat) (hi : i < 8) (hc : c < 17) : Sat Tryd.prog 133 [roofD r, .v (.int .i64 i), .v (.int .i64 c)] (.v (.bool (insB r i c))) := by
  have e3 : IntKind.i64.wrap r.h = r.h := w64 (by omega) (by omega)
  refine sat_of_wp hMix tOk Tryd.func133 rfl rfl Tryd.ntmps133 rfl rfl Tryd.results133 (by kernel_rfl) ?_
  conv => whnf
  repeat (first | (refine go_F3 ?_; conv => whnf) | (refine lk_F3 ?_; conv => whnf))
  rw [e3]
  cases h : decide ((i : Int) < r.h)
  · conv => whnf
    repeat (first | (refine go_F3 ?_; conv => whnf) | (refine lk_F3 ?_; conv => whnf))
    first | refine ⟨rfl, _, rfl, ?_⟩ | refine ⟨_, rfl, ?_⟩
    skip
    unfold insB; rw [h]; rfl
  conv => whnf
  repeat (first | (refine go_F3 ?_; conv => whnf) | (refine lk_F3 ?_; conv => whnf))
  first | refine ⟨_, _, rfl, sc_F3 (cells_sat r hr hb), ?_⟩ | refine .inl ⟨_, _, rfl, sc_F3 (cells_sat r hr hb), ?_⟩
  conv => whnf
  repeat (first | (refine go_F3 ?_; conv => whnf) | (refine lk_F3 ?_; conv => whnf))
  first | refine ⟨rfl, _, rfl, ?_⟩ | refine ⟨_, rfl, ?_⟩
  skip
  unfold insB; rw [h]; rfl
theorem isAmount32_sat (n : Int) (hn : -2147483648 ≤ n ∧ n ≤ 2147483647) : Sat Tryd.prog 79 [.v (.int .i32 n)] (.v (.bool (deepB n))) := by
  refine sat_of_wp hMix tOk Tryd.func79 rfl rfl Tryd.ntmps79 rfl rfl Tryd.results79 (by kernel_rfl) ?_
  conv => whnf
  repeat (first | (refine go_F3 ?_; conv => whnf) | (refine lk_F3 ?_; conv => whnf))
  rw [show IntKind.i64.wrap n = n from w64 (by omega) (by omega)]
  first | refine ⟨_, _, rfl, sc_F3 (within64_sat n 0 1000), ?_⟩ | refine .inl ⟨_, _, rfl, sc_F3 (within64_sat n 0 1000), ?_⟩
  conv => whnf
  repeat (first | (refine go_F3 ?_; conv => whnf) | (refine lk_F3 ?_; conv => whnf))
  first | refine ⟨rfl, _, rfl, ?_⟩ | refine ⟨_, rfl, ?_⟩
  rfl
theorem dec32_sat (n : Int) (hn : -2147483648 ≤ n ∧ n ≤ 2147483647) : Sat Tryd.prog 135 [.v (.int .i32 n)] (.v (.string (decB n))) := by
  refine sat_of_wp hMix tOk Tryd.func135 rfl rfl Tryd.ntmps135 rfl rfl Tryd.results135 (by kernel_rfl) ?_
  conv => whnf
  repeat (first | (refine go_F3 ?_; conv => whnf) | (refine lk_F3 ?_; conv => whnf))
  rw [show IntKind.i64.wrap n = n from w64 (by omega) (by omega)]
  first | refine ⟨_, _, rfl, sc_F3 (formatInt_sat n (by omega) (by omega)), ?_⟩ | refine .inl ⟨_, _, rfl, sc_F3 (formatInt_sat n (by omega) (by omega)), ?_⟩
  conv => whnf
  repeat (first | (refine go_F3 ?_; conv => whnf) | (refine lk_F3 ?_; conv => whnf))
  first | refine ⟨rfl, _, rfl, ?_⟩ | refine ⟨_, rfl, ?_⟩
  rfl
theorem decI_sat (n : Int) (hn : -2147483648 ≤ n ∧ n ≤ 2147483647) : Sat Tryd.prog 134 [.v (.int .i64 n)] (.v (.string (decB n))) := by
  refine sat_of_wp hMix tOk Tryd.func134 rfl rfl Tryd.ntmps134 rfl rfl Tryd.results134 (by kernel_rfl) ?_
  conv => whnf
  repeat (first | (refine go_F3 ?_; conv => whnf) | (refine lk_F3 ?_; conv => whnf))
  try rw [show IntKind.i64.wrap n = n from w64 (by omega) (by omega)]
  first | refine ⟨_, _, rfl, sc_F3 (formatInt_sat n (by omega) (by omega)), ?_⟩ | refine .inl ⟨_, _, rfl, sc_F3 (formatInt_sat n (by omega) (by omega)), ?_⟩
  conv => whnf
  repeat (first | (refine go_F3 ?_; conv => whnf) | (refine lk_F3 ?_; conv => whnf))
  first | refine ⟨rfl, _, rfl, ?_⟩ | refine ⟨_, rfl, ?_⟩
  rfl
theorem l03Plain_sat (r : Roof) (hr : r.In) (hb : Rb r) (f : Tb) (hf : DrpIn f) : Sat Tryd.prog 75 [.ref false (roofD r) 0, .ref false (dripD f) 0] (.v (.bool (okF r f))) := by
  refine sat_of_wp hMix tOk Tryd.func75 rfl rfl Tryd.ntmps75 rfl rfl Tryd.results75 (by kernel_rfl) ?_
  conv => whnf
  repeat (first | (refine go_F3 ?_; conv => whnf) | (refine lk_F3 ?_; conv => whnf))
  refine loop_rule (α := Nat) (fun i => [(0, .ref false (roofD r) 0), (1, .ref false (dripD f) 0), (5, .v (.int .i64 i))]) (fun i => []) (fun i => i ≤ 8 ∧ ∀ k, k < i * 17 → okFc r f k = true) (fun i => 8 - i) (0) ?_ (sim_of (rn := []) rfl ?_ ?_) ?_
  · exact ⟨by omega, fun k hk => by omega⟩
  · exact hold_F3
  · ((repeat' (first | exact trivial | apply And.intro)) <;> ((first | refine ⟨_, _, rfl, rfl, ?_⟩ ); rfl))
  rintro i ⟨hi, hall⟩
  conv => whnf
  repeat (first | (refine go_F3 ?_; conv => whnf) | (refine lk_F3 ?_; conv => whnf))
  cases h1 : decide ((i : Int) < 8)
  · have h8 : i = 8 := by simp at h1; omega
    subst h8
    rw [okF_yes hall]
    conv => whnf
    repeat (first | (refine go_F3 ?_; conv => whnf) | (refine lk_F3 ?_; conv => whnf))
    first | refine ⟨rfl, _, rfl, ?_⟩ | refine ⟨_, rfl, ?_⟩
    rfl
  have h8 : i < 8 := by simp at h1; omega
  conv => whnf
  repeat (first | (refine go_F3 ?_; conv => whnf) | (refine lk_F3 ?_; conv => whnf))
  refine loop_rule (α := Nat) (fun c => [(0, .ref false (roofD r) 0), (1, .ref false (dripD f) 0), (5, .v (.int .i64 i)), (6, .v (.int .i64 c))]) (fun c => []) (fun c => c ≤ 17 ∧ ∀ k, k < i * 17 + c → okFc r f k = true) (fun c => 17 - c) (0) ?_ (sim_of (rn := []) rfl ?_ ?_) ?_
  · exact ⟨by omega, fun k hk => hall k (by omega)⟩
  · exact hold_F3
  · ((repeat' (first | exact trivial | apply And.intro)) <;> ((first | refine ⟨_, _, rfl, rfl, ?_⟩ ); rfl))
  rintro c ⟨hc, hall2⟩
  conv => whnf
  repeat (first | (refine go_F3 ?_; conv => whnf) | (refine lk_F3 ?_; conv => whnf))
  cases h2 : decide ((c : Int) < 17)
  · have h17 : c = 17 := by simp at h2; omega
    subst h17
    conv => whnf
    repeat (first | (refine go_F3 ?_; conv => whnf) | (refine lk_F3 ?_; conv => whnf))
    refine ⟨i + 1, ?_, ?_, sim_of (rn := []) rfl ?_ ?_⟩
    · (dsimp only; omega)
    · exact ⟨by omega, fun k hk => hall2 k (by omega)⟩
    · exact hold_F3
    · ((repeat' (first | exact trivial | apply And.intro)) <;> ((first | refine ⟨_, _, rfl, rfl, ?_⟩ ); rfl))
  have h17 : c < 17 := by simp at h2; omega
  have hfc := hf.t i c
  have hsp : okFc r f (i * 17 + c) = (deepB (f i c) && (insB r i c || decide (f i c = 0))) := by unfold okFc; rw [show (i * 17 + c) / 17 = i by omega, show (i * 17 + c) % 17 = c by omega]
  have nxt : okFc r f (i * 17 + c) = true → c + 1 ≤ 17 ∧ ∀ k, k < i * 17 + (c + 1) → okFc r f k = true := fun h => ⟨by omega, fun k hk => by
    by_cases e : k = i * 17 + c
    · rw [e]; exact h
    · exact hall2 k (by omega)⟩
  conv => whnf
  repeat (first | (refine go_F3 ?_; conv => whnf) | (refine lk_F3 ?_; conv => whnf))
  rw [show IntKind.i64.wrap (f i c) = f i c from w64 (by omega) (by omega)]
  first | refine ⟨_, _, rfl, sc_F3 (l00In_sat (f i c) 0 1000), ?_⟩ | refine .inl ⟨_, _, rfl, sc_F3 (l00In_sat (f i c) 0 1000), ?_⟩
  conv => whnf
  repeat (first | (refine go_F3 ?_; conv => whnf) | (refine lk_F3 ?_; conv => whnf))
  rw [show (decide (f i c ≥ 0) && decide (f i c ≤ 1000)) = deepB (f i c) from rfl]
  cases h3 : deepB (f i c)
  · rw [okF_no (k := i * 17 + c) (by omega) (by rw [hsp, h3]; rfl)]
    conv => whnf
    repeat (first | (refine go_F3 ?_; conv => whnf) | (refine lk_F3 ?_; conv => whnf))
    first | refine ⟨rfl, _, rfl, ?_⟩ | refine ⟨_, rfl, ?_⟩
    rfl
  conv => whnf
  repeat (first | (refine go_F3 ?_; conv => whnf) | (refine lk_F3 ?_; conv => whnf))
  have hd : 0 ≤ f i c := by unfold deepB at h3; simp at h3; omega
  cases h4 : decide (f i c > 0)
  · have h0 : f i c = 0 := by simp at h4; omega
    conv => whnf
    repeat (first | (refine go_F3 ?_; conv => whnf) | (refine lk_F3 ?_; conv => whnf))
    refine ⟨c + 1, ?_, ?_, sim_of (rn := []) rfl ?_ ?_⟩
    · (dsimp only; omega)
    · exact nxt (by rw [hsp, h3, h0]; simp)
    · exact hold_F3
    · ((repeat' (first | exact trivial | apply And.intro)) <;> ((first | refine ⟨_, _, rfl, rfl, ?_⟩ ); rfl))
  have h0 : ¬ f i c = 0 := by simp at h4; omega
  conv => whnf
  repeat (first | (refine go_F3 ?_; conv => whnf) | (refine lk_F3 ?_; conv => whnf))
  first | refine ⟨_, _, rfl, sc_F3 (inside_sat r hr hb i c h8 h17), ?_⟩ | refine .inl ⟨_, _, rfl, sc_F3 (inside_sat r hr hb i c h8 h17), ?_⟩
  conv => whnf
  repeat (first | (refine go_F3 ?_; conv => whnf) | (refine lk_F3 ?_; conv => whnf))
  cases h5 : insB r i c
  · rw [okF_no (k := i * 17 + c) (by omega) (by rw [hsp, h3, h5]; simp [h0])]
    conv => whnf
    repeat (first | (refine go_F3 ?_; conv => whnf) | (refine lk_F3 ?_; conv => whnf))
    first | refine ⟨rfl, _, rfl, ?_⟩ | refine ⟨_, rfl, ?_⟩
    rfl
  · conv => whnf
    repeat (first | (refine go_F3 ?_; conv => whnf) | (refine lk_F3 ?_; conv => whnf))
    refine ⟨c + 1, ?_, ?_, sim_of (rn := []) rfl ?_ ?_⟩
    · (dsimp only; omega)
    · exact nxt (by rw [hsp, h3, h5]; rfl)
    · exact hold_F3
    · ((repeat' (first | exact trivial | apply And.intro)) <;> ((first | refine ⟨_, _, rfl, rfl, ?_⟩ ); rfl))
theorem areDrips_sat (r : Roof) (hr : r.In) (hb : Rb r) (f : Tb) (hf : DrpIn f) : Sat Tryd.prog 78 [roofD r, dripD f, .fn (.func 79) [] []] (.v (.bool (okF r f))) := by
  refine sat_of_wp hMix tOk Tryd.func78 rfl rfl Tryd.ntmps78 rfl rfl Tryd.results78 (by kernel_rfl) ?_
  conv => whnf
  repeat (first | (refine go_F3 ?_; conv => whnf) | (refine lk_F3 ?_; conv => whnf))
  refine loop_rule (α := Nat) (fun i => [(2, .fn (.func 79) [] []), (3, .ptr (3, 0, 0) 0), (11, dripD f), (12, .v (.int .i64 i))]) (fun i => [((3, 0, 0), roofD r)]) (fun i => i ≤ 8 ∧ ∀ k, k < i * 17 → okFc r f k = true) (fun i => 8 - i) (0) ?_ (sim_of (rn := [((3, 0, 0), (3, 0, 0))]) rfl ?_ ?_) ?_
  · exact ⟨by omega, fun k hk => by omega⟩
  · ((repeat' (first | exact trivial | apply And.intro)) <;> (first | rfl | (first | exact cset (take_drop0 (by simp)).symm | exact cset (take_drop0 (by simp))) | exact leaf_F3))
  · ((repeat' (first | exact trivial | apply And.intro)) <;> ((first | refine ⟨_, _, rfl, rfl, ?_⟩ ); rfl))
  rintro i ⟨hi, hall⟩
  conv => whnf
  repeat (first | (refine go_F3 ?_; conv => whnf) | (refine lk_F3 ?_; conv => whnf))
  cases h1 : decide ((i : Int) < 8)
  · have h8 : i = 8 := by simp at h1; omega
    subst h8
    rw [okF_yes hall]
    conv => whnf
    repeat (first | (refine go_F3 ?_; conv => whnf) | (refine lk_F3 ?_; conv => whnf))
    first | refine ⟨rfl, _, rfl, ?_⟩ | refine ⟨_, rfl, ?_⟩
    rfl
  have h8 : i < 8 := by simp at h1; omega
  conv => whnf
  repeat (first | (refine go_F3 ?_; conv => whnf) | (refine lk_F3 ?_; conv => whnf))
  refine loop_rule (α := Nat) (fun c => [(2, .fn (.func 79) [] []), (3, .ptr (3, 0, 0) 0), (7, .v (.int .i64 i)), (11, dripD f), (12, .v (.int .i64 i)), (16, watD (f i)), (17, .v (.int .i64 c))]) (fun c => [((3, 0, 0), roofD r)]) (fun c => c ≤ 17 ∧ ∀ k, k < i * 17 + c → okFc r f k = true) (fun c => 17 - c) (0) ?_ (sim_of (rn := [((3, 0, 0), (3, 0, 0))]) rfl ?_ ?_) ?_
  · exact ⟨by omega, fun k hk => hall k (by omega)⟩
  · ((repeat' (first | exact trivial | apply And.intro)) <;> (first | rfl | (exact (rowcopy (by show (i : Int).toNat * 17 = i * 17; simp) h8 (List.length_replicate ..)).symm) | exact leaf_F3))
  · ((repeat' (first | exact trivial | apply And.intro)) <;> ((first | refine ⟨_, _, rfl, rfl, ?_⟩ ); rfl))
  rintro c ⟨hc, hall2⟩
  conv => whnf
  repeat (first | (refine go_F3 ?_; conv => whnf) | (refine lk_F3 ?_; conv => whnf))
  cases h2 : decide ((c : Int) < 17)
  · have h17 : c = 17 := by simp at h2; omega
    subst h17
    conv => whnf
    repeat (first | (refine go_F3 ?_; conv => whnf) | (refine lk_F3 ?_; conv => whnf))
    refine ⟨i + 1, ?_, ?_, sim_of (rn := [((3, 0, 0), (3, 0, 0))]) rfl ?_ ?_⟩
    · (dsimp only; omega)
    · exact ⟨by omega, fun k hk => hall2 k (by omega)⟩
    · exact hold_F3
    · ((repeat' (first | exact trivial | apply And.intro)) <;> ((first | refine ⟨_, _, rfl, rfl, ?_⟩ ); rfl))
  have h17 : c < 17 := by simp at h2; omega
  have hfc := hf.t i c
  have hsp : okFc r f (i * 17 + c) = (deepB (f i c) && (insB r i c || decide (f i c = 0))) := by unfold okFc; rw [show (i * 17 + c) / 17 = i by omega, show (i * 17 + c) % 17 = c by omega]
  have nxt : okFc r f (i * 17 + c) = true → c + 1 ≤ 17 ∧ ∀ k, k < i * 17 + (c + 1) → okFc r f k = true := fun h => ⟨by omega, fun k hk => by
    by_cases e : k = i * 17 + c
    · rw [e]; exact h
    · exact hall2 k (by omega)⟩
  conv => whnf
  repeat (first | (refine go_F3 ?_; conv => whnf) | (refine lk_F3 ?_; conv => whnf))
  first | refine ⟨_, _, rfl, sc_F3 (isCell_sat r hr hb i c h8 h17), ?_⟩ | refine .inl ⟨_, _, rfl, sc_F3 (isCell_sat r hr hb i c h8 h17), ?_⟩
  conv => whnf
  repeat (first | (refine go_F3 ?_; conv => whnf) | (refine lk_F3 ?_; conv => whnf))
  cases h5 : insB r i c
  · conv => whnf
    repeat (first | (refine go_F3 ?_; conv => whnf) | (refine lk_F3 ?_; conv => whnf))
    cases h4 : (f i c != 0)
    · have h0 : f i c = 0 := by simpa using h4
      conv => whnf
      repeat (first | (refine go_F3 ?_; conv => whnf) | (refine lk_F3 ?_; conv => whnf))
      first | refine ⟨_, _, rfl, sc_F3 (isAmount32_sat (f i c) hfc), ?_⟩ | refine .inl ⟨_, _, rfl, sc_F3 (isAmount32_sat (f i c) hfc), ?_⟩
      conv => whnf
      repeat (first | (refine go_F3 ?_; conv => whnf) | (refine lk_F3 ?_; conv => whnf))
      cases h3 : deepB (f i c)
      · rw [okF_no (k := i * 17 + c) (by omega) (by rw [hsp, h3]; rfl)]
        conv => whnf
        repeat (first | (refine go_F3 ?_; conv => whnf) | (refine lk_F3 ?_; conv => whnf))
        first | refine ⟨rfl, _, rfl, ?_⟩ | refine ⟨_, rfl, ?_⟩
        rfl
      · conv => whnf
        repeat (first | (refine go_F3 ?_; conv => whnf) | (refine lk_F3 ?_; conv => whnf))
        refine ⟨c + 1, ?_, ?_, sim_of (rn := [((3, 0, 0), (3, 0, 0))]) rfl ?_ ?_⟩
        · (dsimp only; omega)
        · exact nxt (by rw [hsp, h3, h0]; simp)
        · exact hold_F3
        · ((repeat' (first | exact trivial | apply And.intro)) <;> ((first | refine ⟨_, _, rfl, rfl, ?_⟩ ); rfl))
    · have h0 : ¬ f i c = 0 := by simpa using h4
      rw [okF_no (k := i * 17 + c) (by omega) (by rw [hsp, h5]; simp [h0])]
      conv => whnf
      repeat (first | (refine go_F3 ?_; conv => whnf) | (refine lk_F3 ?_; conv => whnf))
      first | refine ⟨rfl, _, rfl, ?_⟩ | refine ⟨_, rfl, ?_⟩
      rfl
  · conv => whnf
    repeat (first | (refine go_F3 ?_; conv => whnf) | (refine lk_F3 ?_; conv => whnf))
    first | refine ⟨_, _, rfl, sc_F3 (isAmount32_sat (f i c) hfc), ?_⟩ | refine .inl ⟨_, _, rfl, sc_F3 (isAmount32_sat (f i c) hfc), ?_⟩
    conv => whnf
    repeat (first | (refine go_F3 ?_; conv => whnf) | (refine lk_F3 ?_; conv => whnf))
    cases h3 : deepB (f i c)
    · rw [okF_no (k := i * 17 + c) (by omega) (by rw [hsp, h3]; rfl)]
      conv => whnf
      repeat (first | (refine go_F3 ?_; conv => whnf) | (refine lk_F3 ?_; conv => whnf))
      first | refine ⟨rfl, _, rfl, ?_⟩ | refine ⟨_, rfl, ?_⟩
      rfl
    · conv => whnf
      repeat (first | (refine go_F3 ?_; conv => whnf) | (refine lk_F3 ?_; conv => whnf))
      refine ⟨c + 1, ?_, ?_, sim_of (rn := [((3, 0, 0), (3, 0, 0))]) rfl ?_ ?_⟩
      · (dsimp only; omega)
      · exact nxt (by rw [hsp, h3, h5]; rfl)
      · exact hold_F3
      · ((repeat' (first | exact trivial | apply And.intro)) <;> ((first | refine ⟨_, _, rfl, rfl, ?_⟩ ); rfl))
theorem l03Text_sat (r : Roof) (f : Tb) (hf : okF r f = true) : Sat Tryd.prog 76 [.ref false (dripD f) 0] (.v (.string (bsOf (dtT f 136)))) := by
  refine sat_of_wp hMix tOk Tryd.func76 rfl rfl Tryd.ntmps76 rfl rfl Tryd.results76 (by kernel_rfl) ?_
  conv => whnf
  repeat (first | (refine go_F3 ?_; conv => whnf) | (refine lk_F3 ?_; conv => whnf))
  refine loop_rule (α := Nat) (fun i => [(0, .ref false (dripD f) 0), (3, .v (.string (bsOf (dtT f (i * 17))))), (4, .v (.int .i64 i))]) (fun i => []) (fun i => i ≤ 8) (fun i => 8 - i) (0) ?_ (sim_of (rn := []) rfl ?_ ?_) ?_
  · exact okt_F3
  · ((repeat' (first | exact trivial | apply And.intro)) <;> (first | rfl | (rfl) | exact leaf_F3))
  · ((repeat' (first | exact trivial | apply And.intro)) <;> ((first | refine ⟨_, _, rfl, rfl, ?_⟩ ); rfl))
  intro i hi
  conv => whnf
  repeat (first | (refine go_F3 ?_; conv => whnf) | (refine lk_F3 ?_; conv => whnf))
  cases h1 : decide ((i : Int) < 8)
  · have h8 : i = 8 := by simp at h1; omega
    subst h8
    conv => whnf
    repeat (first | (refine go_F3 ?_; conv => whnf) | (refine lk_F3 ?_; conv => whnf))
    first | refine ⟨rfl, _, rfl, ?_⟩ | refine ⟨_, rfl, ?_⟩
    rfl
  have h8 : i < 8 := by simp at h1; omega
  conv => whnf
  repeat (first | (refine go_F3 ?_; conv => whnf) | (refine lk_F3 ?_; conv => whnf))
  refine loop_rule (α := Nat) (fun c => [(0, .ref false (dripD f) 0), (3, .v (.string (bsOf (dtT f (i * 17 + c))))), (4, .v (.int .i64 i)), (5, .v (.int .i64 c))]) (fun c => []) (fun c => c ≤ 17) (fun c => 17 - c) (0) ?_ (sim_of (rn := []) rfl ?_ ?_) ?_
  · exact okt_F3
  · exact hold_F3
  · ((repeat' (first | exact trivial | apply And.intro)) <;> ((first | refine ⟨_, _, rfl, rfl, ?_⟩ ); rfl))
  intro c hc
  conv => whnf
  repeat (first | (refine go_F3 ?_; conv => whnf) | (refine lk_F3 ?_; conv => whnf))
  cases h2 : decide ((c : Int) < 17)
  · have h17 : c = 17 := by simp at h2; omega
    subst h17
    conv => whnf
    repeat (first | (refine go_F3 ?_; conv => whnf) | (refine lk_F3 ?_; conv => whnf))
    refine ⟨i + 1, ?_, ?_, sim_of (rn := []) rfl ?_ ?_⟩
    · (dsimp only; omega)
    · exact okt_F3
    · ((repeat' (first | exact trivial | apply And.intro)) <;> (first | rfl | (exact vstrS (by rw [show (i + 1) * 17 = i * 17 + 17 by omega])) | exact leaf_F3))
    · ((repeat' (first | exact trivial | apply And.intro)) <;> ((first | refine ⟨_, _, rfl, rfl, ?_⟩ ); rfl))
  have h17 : c < 17 := by simp at h2; omega
  have e1 : (i * 17 + c) / 17 = i := by omega
  have e2 : (i * 17 + c) % 17 = c := by omega
  have hin := okF_in hf (i * 17 + c) (by omega)
  obtain ⟨hl, hnil⟩ := dtT_len (okF_in hf) (i * 17 + c) (by omega)
  rw [e1, e2] at hin
  conv => whnf
  repeat (first | (refine go_F3 ?_; conv => whnf) | (refine lk_F3 ?_; conv => whnf))
  cases h4 : (f i c == 0)
  case true =>
    have h0 : f i c = 0 := by simpa using h4
    conv => whnf
    repeat (first | (refine go_F3 ?_; conv => whnf) | (refine lk_F3 ?_; conv => whnf))
    refine ⟨c + 1, ?_, ?_, sim_of (rn := []) rfl ?_ ?_⟩
    · (dsimp only; omega)
    · exact okt_F3
    · ((repeat' (first | exact trivial | apply And.intro)) <;> (first | rfl | (exact vstrS (by rw [show i * 17 + (c + 1) = i * 17 + c + 1 by omega, dtT_no (by rw [e1, e2]; exact h0)])) | exact leaf_F3))
    · ((repeat' (first | exact trivial | apply And.intro)) <;> ((first | refine ⟨_, _, rfl, rfl, ?_⟩ ); rfl))
  have h0 : ¬ f i c = 0 := by simpa using h4
  have h0' : ¬ f ((i * 17 + c) / 17) ((i * 17 + c) % 17) = 0 := by rw [e1, e2]; exact h0
  have hD1 := decimalI_sat (n := (i : Int)) (by omega)
  have hD2 := decimalI_sat (n := (c : Int)) (by omega)
  have hD3 := decimalI_sat (n := f i c) (by omega)
  have hs1 := decB_size (n := (i : Int)) (by omega)
  have hs2 := decB_size (n := (c : Int)) (by omega)
  have hs3 := decB_size (n := f i c) (by omega)
  have hw := dWd_bs (f := f) e1 e2
  have hwl := dWd_len (f := f) (k := i * 17 + c) (by omega) (by rw [e1, e2]; exact hin)
  have ew1 : IntKind.i64.wrap (i : Int) = i := w64 (by omega) (by omega)
  have ew2 : IntKind.i64.wrap (c : Int) = c := w64 (by omega) (by omega)
  have ew3 : IntKind.i64.wrap (f i c) = f i c := w64 (by omega) (by omega)
  have hc58 : (⟨#[58]⟩ : ByteArray).size = 1 := rfl
  have hc61 : (⟨#[61]⟩ : ByteArray).size = 1 := rfl
  have hc32 : (⟨#[32]⟩ : ByteArray).size = 1 := rfl
  conv => whnf
  repeat (first | (refine go_F3 ?_; conv => whnf) | (refine lk_F3 ?_; conv => whnf))
  by_cases hn : dWs f (i * 17 + c) = []
  · have ht := hnil.2 hn
    rw [ht, show (!((bsOf []).toList == (⟨#[]⟩ : ByteArray).toList)) = false by rw [bs_toList, show (⟨#[]⟩ : ByteArray).toList = [] from bs_toList []]; rfl]
    conv => whnf
    repeat (first | (refine go_F3 ?_; conv => whnf) | (refine lk_F3 ?_; conv => whnf))
    try rw [ew1]
    first | refine ⟨_, _, rfl, sc_F3 (hD1), ?_⟩ | refine .inl ⟨_, _, rfl, sc_F3 (hD1), ?_⟩
    conv => whnf
    repeat (first | (refine go_F3 ?_; conv => whnf) | (refine lk_F3 ?_; conv => whnf))
    try rw [ew2]
    first | refine ⟨_, _, rfl, sc_F3 (hD2), ?_⟩ | refine .inl ⟨_, _, rfl, sc_F3 (hD2), ?_⟩
    conv => whnf
    repeat (first | (refine go_F3 ?_; conv => whnf) | (refine lk_F3 ?_; conv => whnf))
    rw [ew3]
    first | refine ⟨_, _, rfl, sc_F3 (hD3), ?_⟩ | refine .inl ⟨_, _, rfl, sc_F3 (hD3), ?_⟩
    conv => whnf
    repeat (first | (refine go_F3 ?_; conv => whnf) | (refine lk_F3 ?_; conv => whnf))
    refine ⟨c + 1, ?_, ?_, sim_of (rn := []) rfl ?_ ?_⟩
    · (dsimp only; omega)
    · exact okt_F3
    · ((repeat' (first | exact trivial | apply And.intro)) <;> (first | rfl | (exact vstrS (by rw [show i * 17 + (c + 1) = i * 17 + c + 1 by omega, dtT_first h0' hn, ← hw]; rfl)) | exact leaf_F3))
    · ((repeat' (first | exact trivial | apply And.intro)) <;> ((first | refine ⟨_, _, rfl, rfl, ?_⟩ ); rfl))
  · have ht : ¬ dtT f (i * 17 + c) = [] := fun h => hn (hnil.1 h)
    rw [show (!((bsOf (dtT f (i * 17 + c))).toList == (⟨#[]⟩ : ByteArray).toList)) = true by rw [bs_toList, show (⟨#[]⟩ : ByteArray).toList = [] from bs_toList []]; simpa using ht]
    conv => whnf
    repeat (first | (refine go_F3 ?_; conv => whnf) | (refine lk_F3 ?_; conv => whnf))
    try rw [ew1]
    first | refine ⟨_, _, rfl, sc_F3 (hD1), ?_⟩ | refine .inl ⟨_, _, rfl, sc_F3 (hD1), ?_⟩
    conv => whnf
    repeat (first | (refine go_F3 ?_; conv => whnf) | (refine lk_F3 ?_; conv => whnf))
    try rw [ew2]
    first | refine ⟨_, _, rfl, sc_F3 (hD2), ?_⟩ | refine .inl ⟨_, _, rfl, sc_F3 (hD2), ?_⟩
    conv => whnf
    repeat (first | (refine go_F3 ?_; conv => whnf) | (refine lk_F3 ?_; conv => whnf))
    rw [ew3]
    first | refine ⟨_, _, rfl, sc_F3 (hD3), ?_⟩ | refine .inl ⟨_, _, rfl, sc_F3 (hD3), ?_⟩
    conv => whnf
    repeat (first | (refine go_F3 ?_; conv => whnf) | (refine lk_F3 ?_; conv => whnf))
    refine ⟨c + 1, ?_, ?_, sim_of (rn := []) rfl ?_ ?_⟩
    · (dsimp only; omega)
    · exact okt_F3
    · ((repeat' (first | exact trivial | apply And.intro)) <;> (first | rfl | (exact vstrS (by rw [show i * 17 + (c + 1) = i * 17 + c + 1 by omega, dtT_more h0' hn, ← bs_append, ← bs_append, ← hw]; rfl)) | exact leaf_F3))
    · ((repeat' (first | exact trivial | apply And.intro)) <;> ((first | refine ⟨_, _, rfl, rfl, ?_⟩ ); rfl))
theorem dripsText_sat (r : Roof) (f : Tb) (hf : okF r f = true) : Sat Tryd.prog 80 [dripD f] (.v (.string (bsOf (dtT f 136)))) := by
  refine sat_of_wp hMix tOk Tryd.func80 rfl rfl Tryd.ntmps80 rfl rfl Tryd.results80 (by kernel_rfl) ?_
  conv => whnf
  repeat (first | (refine go_F3 ?_; conv => whnf) | (refine lk_F3 ?_; conv => whnf))
  refine loop_rule (α := Nat) (fun i => [(1, .ptr (1, 0, 0) 0), (3, .slc true 1 (32, 0, 0) 0 ((dWs f (i * 17)).map bsOf).length), (8, dripD f), (9, .v (.int .i64 i))]) (fun i => [((1, 0, 0), dripD f), ((32, 0, 0), .v (.agg ⟨strsC ((dWs f (i * 17)).map bsOf)⟩))]) (fun i => i ≤ 8) (fun i => 8 - i) (0) ?_ (sim_of (rn := [((1, 0, 0), (1, 0, 0)), ((32, 0, 0), nilId)]) rfl ?_ ?_) ?_
  · exact okt_F3
  · ((repeat' (first | exact trivial | apply And.intro)) <;> (first | rfl | (first | exact cset (take_drop0 (by simp)).symm | exact cset (take_drop0 (by simp))) | exact leaf_F3))
  · ((repeat' (first | exact trivial | apply And.intro)) <;> ((first | refine ⟨_, _, rfl, rfl, ?_⟩ ); first | rfl | (exact cset (show [] = strsC [] from strsC_nil.symm))))
  intro i hi
  conv => whnf
  repeat (first | (refine go_F3 ?_; conv => whnf) | (refine lk_F3 ?_; conv => whnf))
  cases h1 : decide ((i : Int) < 8)
  · have h8 : i = 8 := by simp at h1; omega
    subst h8
    have hl := dWs_len f (8 * 17)
    obtain ⟨hlT, _⟩ := dtT_len (okF_in hf) (8 * 17) (by omega)
    have hj := join_bs (dWs f (8 * 17)) [32]
    conv => whnf
    repeat (first | (refine go_F3 ?_; conv => whnf) | (refine lk_F3 ?_; conv => whnf))
    first | refine ⟨_, _, rfl, sc_F3 (join_sat (List.map bsOf (dWs f (8 * 17))) ⟨#[32]⟩ false (by rw [List.length_map]; omega) (by show (Lib.join _ [32]).length ≤ _; rw [hj]; show (dtT f (8 * 17)).length ≤ _; omega)), ?_⟩ | refine .inl ⟨_, _, rfl, sc_F3 (join_sat (List.map bsOf (dWs f (8 * 17))) ⟨#[32]⟩ false (by rw [List.length_map]; omega) (by show (Lib.join _ [32]).length ≤ _; rw [hj]; show (dtT f (8 * 17)).length ≤ _; omega)), ?_⟩
    conv => whnf
    repeat (first | (refine go_F3 ?_; conv => whnf) | (refine lk_F3 ?_; conv => whnf))
    first | refine ⟨rfl, _, rfl, ?_⟩ | refine ⟨_, rfl, ?_⟩
    skip
    show D.v (.string (bsOf (dtT f 136))) = D.v (.string (bsOf (Lib.join _ [32])))
    rw [hj]; rfl
  have h8 : i < 8 := by simp at h1; omega
  conv => whnf
  repeat (first | (refine go_F3 ?_; conv => whnf) | (refine lk_F3 ?_; conv => whnf))
  refine loop_rule (α := Nat) (fun c => [(1, .ptr (1, 0, 0) 0), (3, .slc true 1 (32, 0, 0) 0 ((dWs f (i * 17 + c)).map bsOf).length), (4, .v (.int .i64 i)), (8, dripD f), (9, .v (.int .i64 i)), (13, watD (f i)), (14, .v (.int .i64 c))]) (fun c => [((1, 0, 0), dripD f), ((32, 0, 0), .v (.agg ⟨strsC ((dWs f (i * 17 + c)).map bsOf)⟩))]) (fun c => c ≤ 17) (fun c => 17 - c) (0) ?_ (sim_of (rn := [((1, 0, 0), (1, 0, 0)), ((32, 0, 0), (32, 0, 0))]) rfl ?_ ?_) ?_
  · exact okt_F3
  · ((repeat' (first | exact trivial | apply And.intro)) <;> (first | rfl | (exact (rowcopy (by show (i : Int).toNat * 17 = i * 17; simp) h8 (List.length_replicate ..)).symm) | exact leaf_F3))
  · ((repeat' (first | exact trivial | apply And.intro)) <;> ((first | refine ⟨_, _, rfl, rfl, ?_⟩ ); rfl))
  intro c hc
  conv => whnf
  repeat (first | (refine go_F3 ?_; conv => whnf) | (refine lk_F3 ?_; conv => whnf))
  cases h2 : decide ((c : Int) < 17)
  · have h17 : c = 17 := by simp at h2; omega
    subst h17
    conv => whnf
    repeat (first | (refine go_F3 ?_; conv => whnf) | (refine lk_F3 ?_; conv => whnf))
    refine ⟨i + 1, ?_, ?_, sim_of (rn := [((1, 0, 0), (1, 0, 0)), ((32, 0, 0), (32, 0, 0))]) rfl ?_ ?_⟩
    · (dsimp only; omega)
    · exact okt_F3
    · ((repeat' (first | exact trivial | apply And.intro)) <;> (first | rfl | ((rw [show (i + 1) * 17 = i * 17 + 17 by omega]; rfl)) | exact leaf_F3))
    · ((repeat' (first | exact trivial | apply And.intro)) <;> ((first | refine ⟨_, _, rfl, rfl, ?_⟩ ); first | rfl | ((rw [show (i + 1) * 17 = i * 17 + 17 by omega]; rfl))))
  have h17 : c < 17 := by simp at h2; omega
  have e1 : (i * 17 + c) / 17 = i := by omega
  have e2 : (i * 17 + c) % 17 = c := by omega
  have hin := okF_in hf (i * 17 + c) (by omega)
  have hl := dWs_len f (i * 17 + c)
  rw [e1, e2] at hin
  conv => whnf
  repeat (first | (refine go_F3 ?_; conv => whnf) | (refine lk_F3 ?_; conv => whnf))
  cases h4 : decide (f i c > 0)
  · have h0 : f i c = 0 := by simp at h4; omega
    have es : dWs f (i * 17 + (c + 1)) = dWs f (i * 17 + c) := (show dWs f (i * 17 + c + 1) = _ from dWs_no (by rw [e1, e2]; exact h0))
    conv => whnf
    repeat (first | (refine go_F3 ?_; conv => whnf) | (refine lk_F3 ?_; conv => whnf))
    refine ⟨c + 1, ?_, ?_, sim_of (rn := [((1, 0, 0), (1, 0, 0)), ((32, 0, 0), (32, 0, 0))]) rfl ?_ ?_⟩
    · (dsimp only; omega)
    · exact okt_F3
    · ((repeat' (first | exact trivial | apply And.intro)) <;> (first | rfl | ((rw [es]; rfl)) | exact leaf_F3))
    · ((repeat' (first | exact trivial | apply And.intro)) <;> ((first | refine ⟨_, _, rfl, rfl, ?_⟩ ); first | rfl | ((rw [es]; rfl))))
  have h0 : ¬ f i c = 0 := by simp at h4; omega
  have es : dWs f (i * 17 + (c + 1)) = dWs f (i * 17 + c) ++ [dWd f (i * 17 + c)] := (show dWs f (i * 17 + c + 1) = _ from dWs_yes (by rw [e1, e2]; exact h0))
  have hs1 := decB_size (n := (i : Int)) (by omega)
  have hs2 := decB_size (n := (c : Int)) (by omega)
  have hs3 := decB_size (n := f i c) (by omega)
  have hw := dWd_bs (f := f) e1 e2
  have hc58 : (⟨#[58]⟩ : ByteArray).size = 1 := rfl
  have hc61 : (⟨#[61]⟩ : ByteArray).size = 1 := rfl
  have hml : (List.map bsOf (dWs f (i * 17 + c))).length ≤ 136 := by simp; omega
  conv => whnf
  repeat (first | (refine go_F3 ?_; conv => whnf) | (refine lk_F3 ?_; conv => whnf))
  first | refine ⟨_, _, rfl, sc_F3 (decI_sat (i : Int) (by omega)), ?_⟩ | refine .inl ⟨_, _, rfl, sc_F3 (decI_sat (i : Int) (by omega)), ?_⟩
  conv => whnf
  repeat (first | (refine go_F3 ?_; conv => whnf) | (refine lk_F3 ?_; conv => whnf))
  first | refine ⟨_, _, rfl, sc_F3 (decI_sat (c : Int) (by omega)), ?_⟩ | refine .inl ⟨_, _, rfl, sc_F3 (decI_sat (c : Int) (by omega)), ?_⟩
  conv => whnf
  repeat (first | (refine go_F3 ?_; conv => whnf) | (refine lk_F3 ?_; conv => whnf))
  first | refine ⟨_, _, rfl, sc_F3 (dec32_sat (f i c) (by omega)), ?_⟩ | refine .inl ⟨_, _, rfl, sc_F3 (dec32_sat (f i c) (by omega)), ?_⟩
  conv => whnf
  repeat (first | (refine go_F3 ?_; conv => whnf) | (refine lk_F3 ?_; conv => whnf))
  have ec : strsC ((dWs f (i * 17 + c)).map bsOf) ++ [.string (decB i ++ ⟨#[58]⟩ ++ decB c ++ ⟨#[61]⟩ ++ decB (f i c))] = strsC ((dWs f (i * 17 + (c + 1))).map bsOf) := by rw [hw, es, strsB_append]
  refine ⟨c + 1, ?_, ?_, sim_of (rn := [((1, 0, 0), (1, 0, 0)), ((32, 0, 0), (32, 1, 0))]) rfl ?_ ?_⟩
  · (dsimp only; omega)
  · exact okt_F3
  · ((repeat' (first | exact trivial | apply And.intro)) <;> (first | rfl | (exact vslcS (by rw [es]; simp)) | exact leaf_F3))
  · ((repeat' (first | exact trivial | apply And.intro)) <;> ((first | refine ⟨_, _, rfl, rfl, ?_⟩ ); first | rfl | (exact cset ec)))
theorem implDripsText_sat (r : Roof) (hr : r.In) (f : Tb) (hf : DrpIn f) : Sat Tryd.prog 25 [roofD r, dripD f] (.v (.string (dripText r f))) := by
  refine sat_of_wp hMix tOk Tryd.func25 rfl rfl Tryd.ntmps25 rfl rfl Tryd.results25 (by kernel_rfl) ?_
  conv => whnf
  repeat (first | (refine go_F3 ?_; conv => whnf) | (refine lk_F3 ?_; conv => whnf))
  first | refine ⟨_, _, rfl, sc_F3 (validRoof_sat r hr), ?_⟩ | refine .inl ⟨_, _, rfl, sc_F3 (validRoof_sat r hr), ?_⟩
  conv => whnf
  repeat (first | (refine go_F3 ?_; conv => whnf) | (refine lk_F3 ?_; conv => whnf))
  cases hR : okR r
  · conv => whnf
    repeat (first | (refine go_F3 ?_; conv => whnf) | (refine lk_F3 ?_; conv => whnf))
    first | refine ⟨rfl, _, rfl, ?_⟩ | refine ⟨_, rfl, ?_⟩
    skip
    unfold dripText; rw [hR]; rfl
  have hb := okR_bounds hR
  conv => whnf
  repeat (first | (refine go_F3 ?_; conv => whnf) | (refine lk_F3 ?_; conv => whnf))
  first | refine ⟨_, _, rfl, sc_F3 (areDrips_sat r hr hb f hf), ?_⟩ | refine .inl ⟨_, _, rfl, sc_F3 (areDrips_sat r hr hb f hf), ?_⟩
  conv => whnf
  repeat (first | (refine go_F3 ?_; conv => whnf) | (refine lk_F3 ?_; conv => whnf))
  cases hO : okF r f
  · conv => whnf
    repeat (first | (refine go_F3 ?_; conv => whnf) | (refine lk_F3 ?_; conv => whnf))
    first | refine ⟨rfl, _, rfl, ?_⟩ | refine ⟨_, rfl, ?_⟩
    skip
    unfold dripText; rw [hR, hO]; rfl
  rw [show dripText r f = bsOf (dtT f 136) by unfold dripText; rw [hR, hO]; rfl]
  conv => whnf
  repeat (first | (refine go_F3 ?_; conv => whnf) | (refine lk_F3 ?_; conv => whnf))
  first | refine ⟨_, _, rfl, sc_F3 (dripsText_sat r f hO), ?_⟩ | refine .inl ⟨_, _, rfl, sc_F3 (dripsText_sat r f hO), ?_⟩
  conv => whnf
  repeat (first | (refine go_F3 ?_; conv => whnf) | (refine lk_F3 ?_; conv => whnf))
  first | refine ⟨rfl, _, rfl, ?_⟩ | refine ⟨_, rfl, ?_⟩
  rfl
theorem specDripsText_sat (r : Roof) (hr : r.In) (f : Tb) (hf : DrpIn f) : Sat Tryd.prog 23 [roofD r, dripD f] (.v (.string (dripText r f))) := by
  refine sat_of_wp hMix tOk Tryd.func23 rfl rfl Tryd.ntmps23 rfl rfl Tryd.results23 (by kernel_rfl) ?_
  conv => whnf
  repeat (first | (refine go_F3 ?_; conv => whnf) | (refine lk_F3 ?_; conv => whnf))
  first | refine ⟨_, _, rfl, sc_F3 (l01Ok_sat r hr), ?_⟩ | refine .inl ⟨_, _, rfl, sc_F3 (l01Ok_sat r hr), ?_⟩
  conv => whnf
  repeat (first | (refine go_F3 ?_; conv => whnf) | (refine lk_F3 ?_; conv => whnf))
  cases hR : okR r
  · conv => whnf
    repeat (first | (refine go_F3 ?_; conv => whnf) | (refine lk_F3 ?_; conv => whnf))
    first | refine ⟨rfl, _, rfl, ?_⟩ | refine ⟨_, rfl, ?_⟩
    skip
    unfold dripText; rw [hR]; rfl
  have hb := okR_bounds hR
  conv => whnf
  repeat (first | (refine go_F3 ?_; conv => whnf) | (refine lk_F3 ?_; conv => whnf))
  first | refine ⟨_, _, rfl, sc_F3 (l03Plain_sat r hr hb f hf), ?_⟩ | refine .inl ⟨_, _, rfl, sc_F3 (l03Plain_sat r hr hb f hf), ?_⟩
  conv => whnf
  repeat (first | (refine go_F3 ?_; conv => whnf) | (refine lk_F3 ?_; conv => whnf))
  cases hO : okF r f
  · conv => whnf
    repeat (first | (refine go_F3 ?_; conv => whnf) | (refine lk_F3 ?_; conv => whnf))
    first | refine ⟨rfl, _, rfl, ?_⟩ | refine ⟨_, rfl, ?_⟩
    skip
    unfold dripText; rw [hR, hO]; rfl
  rw [show dripText r f = bsOf (dtT f 136) by unfold dripText; rw [hR, hO]; rfl]
  conv => whnf
  repeat (first | (refine go_F3 ?_; conv => whnf) | (refine lk_F3 ?_; conv => whnf))
  first | refine ⟨_, _, rfl, sc_F3 (l03Text_sat r f hO), ?_⟩ | refine .inl ⟨_, _, rfl, sc_F3 (l03Text_sat r f hO), ?_⟩
  conv => whnf
  repeat (first | (refine go_F3 ?_; conv => whnf) | (refine lk_F3 ?_; conv => whnf))
  first | refine ⟨rfl, _, rfl, ?_⟩ | refine ⟨_, rfl, ?_⟩
  rfl
theorem fnExactDripsText_sat (r : Roof) (hr : r.In) (f : Tb) (hf : DrpIn f) : Sat Tryd.prog 6 [roofD r, dripD f] (.v (.bool true)) := by
  have s1 := specDripsText_sat r hr f hf
  have s2 := implDripsText_sat r hr f hf
  generalize dripText r f = x at s1 s2
  refine sat_of_wp hMix tOk Tryd.func6 rfl rfl Tryd.ntmps6 rfl rfl Tryd.results6 (by kernel_rfl) ?_
  conv => whnf
  repeat (first | (refine go_F3 ?_; conv => whnf) | (refine lk_F3 ?_; conv => whnf))
  first | refine ⟨_, _, rfl, sc_F3 (toRoof_sat r), ?_⟩ | refine .inl ⟨_, _, rfl, sc_F3 (toRoof_sat r), ?_⟩
  conv => whnf
  repeat (first | (refine go_F3 ?_; conv => whnf) | (refine lk_F3 ?_; conv => whnf))
  first | refine ⟨_, _, rfl, sc_F3 (toDrips_sat f), ?_⟩ | refine .inl ⟨_, _, rfl, sc_F3 (toDrips_sat f), ?_⟩
  conv => whnf
  repeat (first | (refine go_F3 ?_; conv => whnf) | (refine lk_F3 ?_; conv => whnf))
  first | refine ⟨_, _, rfl, sc_F3 (s1), ?_⟩ | refine .inl ⟨_, _, rfl, sc_F3 (s1), ?_⟩
  conv => whnf
  repeat (first | (refine go_F3 ?_; conv => whnf) | (refine lk_F3 ?_; conv => whnf))
  first | refine ⟨_, _, rfl, sc_F3 (toRoof_sat r), ?_⟩ | refine .inl ⟨_, _, rfl, sc_F3 (toRoof_sat r), ?_⟩
  conv => whnf
  repeat (first | (refine go_F3 ?_; conv => whnf) | (refine lk_F3 ?_; conv => whnf))
  first | refine ⟨_, _, rfl, sc_F3 (toDrips_sat f), ?_⟩ | refine .inl ⟨_, _, rfl, sc_F3 (toDrips_sat f), ?_⟩
  conv => whnf
  repeat (first | (refine go_F3 ?_; conv => whnf) | (refine lk_F3 ?_; conv => whnf))
  first | refine ⟨_, _, rfl, sc_F3 (s2), ?_⟩ | refine .inl ⟨_, _, rfl, sc_F3 (s2), ?_⟩
  conv => whnf
  repeat (first | (refine go_F3 ?_; conv => whnf) | (refine lk_F3 ?_; conv => whnf))
  rw [show (x.toList == x.toList) = true by simp]
  conv => whnf
  repeat (first | (refine go_F3 ?_; conv => whnf) | (refine lk_F3 ?_; conv => whnf))
  first | refine ⟨rfl, _, rfl, ?_⟩ | refine ⟨_, rfl, ?_⟩
  rfl
end Go.Proofs.YtdbhfobnmlogeaaDoor
