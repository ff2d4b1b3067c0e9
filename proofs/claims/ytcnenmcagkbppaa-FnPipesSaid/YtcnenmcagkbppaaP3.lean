import Derived.Test.YtcnenmcagkbppaaP2
set_option linter.unusedVariables false
set_option linter.unusedSimpArgs false
/- Contracts: the cell whose leaves are best taken away, both sides, and the law. -/
set_option linter.unusedVariables false
set_option linter.unusedSimpArgs false
namespace Go.V
/- Words for the walks of this text: their default arguments are tried where they are used. -/
theorem go_D7 {P Q : Prop} (k : Q) (h : P := by first | exact Nat.le_of_ble_eq_true rfl | exact rfl | decide | omega | (simp [splice]; done) | (constructor <;> omega) | (simp [splice]; omega)) : P ∧ Q := ⟨h, k⟩
theorem lk_D7 {α : Type} {o : Option α} {K : α → Prop} {x : α} (k : K x) (h : o = some x := by first | exact watA (by omega) | exact watA' (by omega) | exact watP (by omega) (by omega) | exact hDA (by omega) | exact hDA' (by omega) | exact gutA (by omega) | exact pipeA (by omega) | exact pipeB (by omega) | exact pipeSA (by omega) | exact pipeSB (by omega) | exact upA (by omega) | exact intA (by omega) | exact intA' (by omega)) : optK o K := optK_of h k
theorem sc_D7 {P : Program} {g : FuncId} {args args' : List D} {res : D} (h : Sat P g args res) (e : args' = args := by repeat (first | rfl | exact vfull (by first | (simp [splice]; done) | (simp [splice]; omega)) | exact rfull (by first | (simp [splice]; done) | (simp [splice]; omega)) | exact vzero17 | exact vpipe (by simp; done) (by omega) | exact vsplice (by simp) (by simp) | refine ceq ?_ ?_ | refine Eq.trans (vsplice (by first | (simp; done) | (simp; omega)) (by first | (simp; done) | (simp; omega))) ?_)) : Sat P g args' res := Sat.of_eq h e
theorem sm_D7 {low : Bool} {P : Program} {g : FuncId} {args args' ms ms0 : List D} {res : D} {ms' : List (Option D)} {news : List D} (h : SatB low P g args ms res ms' news) (e : args' = args := by repeat (first | rfl | exact vfull (by first | (simp [splice]; done) | (simp [splice]; omega)) | exact rfull (by first | (simp [splice]; done) | (simp [splice]; omega)) | exact vzero17 | exact vpipe (by simp; done) (by omega) | exact vsplice (by simp) (by simp) | refine ceq ?_ ?_ | refine Eq.trans (vsplice (by first | (simp; done) | (simp; omega)) (by first | (simp; done) | (simp; omega))) ?_)) (e2 : ms0 = ms := by repeat (first | rfl | exact vfull (by first | (simp [splice]; done) | (simp [splice]; omega)) | exact rfull (by first | (simp [splice]; done) | (simp [splice]; omega)) | exact vzero17 | exact vpipe (by simp; done) (by omega) | exact vsplice (by simp) (by simp) | refine ceq ?_ ?_ | refine Eq.trans (vsplice (by first | (simp; done) | (simp; omega)) (by first | (simp; done) | (simp; omega))) ?_)) : SatB low P g args' ms0 res ms' news := SatB.of_eq h e e2
theorem leaf_D7 {P : Prop} (h : P := by first | rfl | exact succ8 (by omega) | exact succ64 (by omega) | exact CapOk.fn (by assumption) _ _ | exact vintS (by omega) | exact vintS (by rw [w64 (by omega) (by omega)]; omega) | exact vintS (by rw [w8 (by omega) (by omega)]; omega) | exact vslcS (by omega) | exact vslcS (by simp)) : P := h
theorem hold_D7 {P : Prop} (h : P := by (repeat' (first | exact trivial | apply And.intro)) <;> (first | rfl | exact succ8 (by omega) | exact succ64 (by omega) | exact CapOk.fn (by assumption) _ _ | exact vintS (by omega) | exact vintS (by rw [w64 (by omega) (by omega)]; omega) | exact vintS (by rw [w8 (by omega) (by omega)]; omega) | exact vslcS (by omega) | exact vslcS (by simp))) : P := h
theorem okt_D7 {P : Prop} (h : P := by first | omega | (dsimp only; omega) | ((repeat' apply And.intro) <;> omega) | (dsimp only; (repeat' apply And.intro) <;> omega) | trivial) : P := h
end Go.V
namespace Go.V
theorem vzero17 : D.v (.agg ⟨List.replicate 17 (.int .i32 0)⟩) = watD (fun _ => 0) := by unfold watD; rw [watC_zero]
/-- An empty row among the arguments is nil, or it is not. -/
theorem Sat.row0 {P : Program} {g : FuncId} {m : Bool} {sz : Nat} {c res : D} (h : ∀ a cap, Sat P g [.v (.slice a 0 cap)] res) : Sat P g [.row m sz c 0] res := by
  refine ⟨(h none 0).1, fun w vs hgl hr => ?_⟩
  simp only [RepL] at hr
  obtain ⟨y, ys, rfl, h1, rfl⟩ := hr
  simp only [Rep] at h1
  obtain ⟨a, cap, xs, rfl, _⟩ := h1
  refine (h a cap).2 w _ hgl ?_
  simp only [RepL]
  exact ⟨_, _, rfl, by simp [Rep, Flat], rfl⟩
end Go.V
namespace Go.Proofs.Ytcnenmcagkbppaa
open Go.V
theorem l06Minute_satR (g : Gut) (hg : g.In) (ho : g.Ok) (w : Nat → Int) (hw : W17 1000 w) (xs : List Int) (hx : RainOk g xs) (m : Bool) :
    SatM Try.prog 93 [.ref false (gutD false g) 0, .ptr (lentId 0) 0, intsD m xs] [watD w] (.tup [.v (.int .i64 (minT g w xs)), .v (.int .i64 (minO g w xs))]) [some (watD (minW g w xs))] [] := by
  have hn := ho.n
  have hdp := ho.dp
  have hxl := hx.len
  have hpl := ho.len
  have e17 : watC (fun _ => 0) = List.replicate 17 (.int .i32 0) := watC_zero
  have en : IntKind.i64.wrap g.n = g.n := w64 (by omega) (by omega)
  have ed : IntKind.i64.wrap g.dp = g.dp := w64 (by omega) (by omega)
  have ed32 : IntKind.i32.wrap g.dp = g.dp := w32 (by omega) (by omega)
  refine satM_of_wp hMix tOk Try.func93 rfl rfl Try.ntmps93 rfl rfl Try.results93 (by kernel_rfl) ?_
  conv => whnf
  repeat (first | (refine go_D7 ?_; conv => whnf) | (refine lk_D7 ?_; conv => whnf))
  refine loop_rule (α := Nat) (fun k => [(0, .ref false (gutD false g) 0), (1, .ptr (lentId 0) 0), (2, intsD m xs), (8, .v (.int .i64 k))]) (fun k => [(lentId 0, watD (wR w xs k))]) (fun k => k ≤ xs.length) (fun k => xs.length - k) (0) ?_ (sim_of (rn := []) rfl ?_ ?_) ?_
  · exact okt_D7
  · exact hold_D7
  · ((repeat' (first | exact trivial | apply And.intro)) <;> ((first | refine ⟨_, _, rfl, rfl, ?_⟩ ); first | rfl | (exact cset (by rw [wR_zero]))))
  intro k hk
  conv => whnf
  repeat (first | (refine go_D7 ?_; conv => whnf) | (refine lk_D7 ?_; conv => whnf))
  cases h1 : decide ((k : Int) < (xs.length : Int))
  case true =>
    have hkn : k < xs.length := by simpa using h1
    have hwk := hw.t k (by omega)
    have hxk := hx.t k hkn
    have ex : IntKind.i32.wrap (ix xs k) = ix xs k := w32 (by omega) (by omega)
    conv => whnf
    repeat (first | (refine go_D7 ?_; conv => whnf) | (refine lk_D7 ?_; conv => whnf))
    have setA : (watC (wR w xs k)).set (0 + (k : Int).toNat * 1) (.int .i32 (IntKind.i32.wrap (wR w xs k k + IntKind.i32.wrap (ix xs k)))) = watC (wR w xs (k + 1)) := by
      rw [ex, wR_at, w32 (by omega) (by omega), wat_set (c := k) (by simp), wR_put]
    refine ⟨k + 1, ?_, ?_, sim_of (rn := []) rfl ?_ ?_⟩
    · (dsimp only; omega)
    · exact okt_D7
    · exact hold_D7
    · ((repeat' (first | exact trivial | apply And.intro)) <;> ((first | refine ⟨_, _, rfl, rfl, ?_⟩ ); first | rfl | (exact cset setA)))
  have hkn : k = g.n.toNat := by simp at h1; omega
  subst hkn
  have hw1 : W17 2000 (wR w xs g.n.toNat) := wR_in hw hx.t (by omega)
  clear h1
  have htk : ∀ i, i ≤ g.ps.length → 0 ≤ tP g (wR w xs g.n.toNat) i ∧ tP g (wR w xs g.n.toNat) i ≤ 8000 := fun i hi => by have := tP_in ho hw1 i hi; omega
  generalize hwe : wR w xs g.n.toNat = w1 at *
  conv => whnf
  repeat (first | (refine go_D7 ?_; conv => whnf) | (refine lk_D7 ?_; conv => whnf))
  refine loop_rule (α := Nat) (fun i => [(0, .ref false (gutD false g) 0), (1, .ptr (lentId 0) 0), (9, .v (.int .i64 (tP g w1 i))), (10, .v (.int .i64 i))]) (fun i => [(lentId 0, watD (wP g w1 i))]) (fun i => i ≤ g.ps.length) (fun i => g.ps.length - i) (0) ?_ (sim_of (rn := []) rfl ?_ ?_) ?_
  · exact okt_D7
  · exact hold_D7
  · ((repeat' (first | exact trivial | apply And.intro)) <;> ((first | refine ⟨_, _, rfl, rfl, ?_⟩ ); rfl))
  intro i hi
  conv => whnf
  repeat (first | (refine go_D7 ?_; conv => whnf) | (refine lk_D7 ?_; conv => whnf))
  cases h1 : decide ((i : Int) < (g.ps.length : Int))
  case true =>
    have hin : i < g.ps.length := by simpa using h1
    have hp := ho.ps i hin
    have hwi := (wP_in ho hw1 i hi).t (px g.ps i).1.toNat (by omega)
    have hti := htk i hi
    have hti1 := htk (i + 1) hin
    have ew : IntKind.i64.wrap (wP g w1 i (px g.ps i).1.toNat) = wP g w1 i (px g.ps i).1.toNat := w64 (by omega) (by omega)
    have ex : IntKind.i64.wrap (px g.ps i).2 = (px g.ps i).2 := w64 (by omega) (by omega)
    have hm1 := minI_le (wP g w1 i (px g.ps i).1.toNat) (px g.ps i).2
    have hm2 := minI_ge hwi.1 hp.2.1
    conv => whnf
    repeat (first | (refine go_D7 ?_; conv => whnf) | (refine lk_D7 ?_; conv => whnf))
    rw [ew, ex]
    first | refine ⟨_, _, rfl, sc_D7 (l00Min_sat _ _), ?_⟩ | refine .inl ⟨_, _, rfl, sc_D7 (l00Min_sat _ _), ?_⟩
    conv => whnf
    repeat (first | (refine go_D7 ?_; conv => whnf) | (refine lk_D7 ?_; conv => whnf))
    have setA : (watC (wP g w1 i)).set (0 + (px g.ps i).1.toNat * 1) (.int .i32 (IntKind.i32.wrap (wP g w1 i (px g.ps i).1.toNat - IntKind.i32.wrap (minI (wP g w1 i (px g.ps i).1.toNat) (px g.ps i).2)))) = watC (wP g w1 (i + 1)) := by
      rw [w32 (n := minI _ _) (by omega) (by omega), w32 (by omega) (by omega), wat_set (c := (px g.ps i).1.toNat) (by simp)]; rfl
    have eT : tP g w1 (i + 1) = IntKind.i64.wrap (tP g w1 i + minI (wP g w1 i (px g.ps i).1.toNat) (px g.ps i).2) := by
      simp only [tP] at hti1 ⊢
      rw [w64 (by omega) (by omega)]
    refine ⟨i + 1, ?_, ?_, sim_of (rn := []) rfl ?_ ?_⟩
    · (dsimp only; omega)
    · exact okt_D7
    · ((repeat' (first | exact trivial | apply And.intro)) <;> (first | rfl | (exact vintS eT) | exact leaf_D7))
    · ((repeat' (first | exact trivial | apply And.intro)) <;> ((first | refine ⟨_, _, rfl, rfl, ?_⟩ ); first | rfl | (exact cset setA)))
  have hin : i = g.ps.length := by simp at h1; omega
  subst hin
  have hw2 : W17 2000 (wP g w1 g.ps.length) := wP_in ho hw1 _ (Nat.le_refl _)
  have e2 : wP g w1 g.ps.length = minF g w xs := by unfold minF; rw [hwe]
  have eT : tP g w1 g.ps.length = minT g w xs := by unfold minT; rw [hwe]
  rw [eT]
  rw [e2] at hw2 ⊢
  clear h1 htk
  unfold minW minO
  generalize minF g w xs = w2 at *
  generalize minT g w xs = tt0 at *
  conv => whnf
  repeat (first | (refine go_D7 ?_; conv => whnf) | (refine lk_D7 ?_; conv => whnf))
  refine loop_rule (α := Nat) (fun k => [(0, .ref false (gutD false g) 0), (1, .ptr (lentId 0) 0), (9, .v (.int .i64 tt0)), (13, .ptr (13, 0, 0) 0), (14, .v (.int .i64 k))]) (fun k => [(lentId 0, watD w2), ((13, 0, 0), watD (oK g w2 k))]) (fun k => k ≤ g.n.toNat) (fun k => g.n.toNat - k) (0) ?_ (sim_of (rn := [((13, 0, 0), (13, 1, 0))]) rfl ?_ ?_) ?_
  · exact okt_D7
  · exact hold_D7
  · ((repeat' (first | exact trivial | apply And.intro)) <;> ((first | refine ⟨_, _, rfl, rfl, ?_⟩ ); first | rfl | (exact cset (e17.symm.trans (congrArg watC (show (fun _ => (0 : Int)) = oK g w2 0 from rfl))))))
  intro k hk
  have hok := oK_in ho hw2 k (by omega)
  conv => whnf
  repeat (first | (refine go_D7 ?_; conv => whnf) | (refine lk_D7 ?_; conv => whnf))
  rw [en]
  cases h1 : decide ((k : Int) < g.n)
  case true =>
    have hkn : (k : Int) < g.n := by simpa using h1
    have hwk := hw2.t k (by omega)
    have htr := toP_range (g := g) (c := k) (by omega)
    have htt := tgt_lt (g := g) (c := k) (by omega)
    have hot := hok.t (tgt g k) (by omega)
    have ew : ∀ x : Int, 0 ≤ x → x ≤ 34000 → IntKind.i32.wrap (x + w2 k) = x + w2 k := fun x h1 h2 => w32 (by omega) (by omega)
    conv => whnf
    repeat (first | (refine go_D7 ?_; conv => whnf) | (refine lk_D7 ?_; conv => whnf))
    first | refine ⟨_, _, rfl, sc_D7 (l06To_sat g hg ho k hkn), ?_⟩ | refine .inl ⟨_, _, rfl, sc_D7 (l06To_sat g hg ho k hkn), ?_⟩
    conv => whnf
    repeat (first | (refine go_D7 ?_; conv => whnf) | (refine lk_D7 ?_; conv => whnf))
    cases h3 : decide (toP g k < 0)
    case true =>
      have h3' : toP g k < 0 := by simpa using h3
      have et : tgt g k = k := by unfold tgt; rw [if_pos (by omega)]
      rw [et] at hot
      conv => whnf
      repeat (first | (refine go_D7 ?_; conv => whnf) | (refine lk_D7 ?_; conv => whnf))
      have setA : (watC (oK g w2 k)).set (0 + (k : Int).toNat * 1) (.int .i32 (IntKind.i32.wrap (oK g w2 k k + w2 k))) = watC (oK g w2 (k + 1)) := by
        rw [ew _ hot.1 (by omega), wat_set (c := k) (by simp)]
        simp only [oK]
        rw [et]
      refine ⟨k + 1, ?_, ?_, sim_of (rn := [((13, 0, 0), (13, 0, 0))]) rfl ?_ ?_⟩
      · (dsimp only; omega)
      · exact okt_D7
      · exact hold_D7
      · ((repeat' (first | exact trivial | apply And.intro)) <;> ((first | refine ⟨_, _, rfl, rfl, ?_⟩ ); first | rfl | (exact cset setA)))
    have h3' : ¬ toP g k < 0 := by simpa using h3
    have et : tgt g k = (toP g k).toNat := by unfold tgt; rw [if_neg (by omega)]
    rw [et] at hot
    have h0 : 0 ≤ toP g k := by omega
    have h17 : toP g k < 17 := by omega
    conv => whnf
    repeat (first | (refine go_D7 ?_; conv => whnf) | (refine lk_D7 ?_; conv => whnf))
    have setA : (watC (oK g w2 k)).set (0 + (toP g k).toNat * 1) (.int .i32 (IntKind.i32.wrap (oK g w2 k (toP g k).toNat + w2 k))) = watC (oK g w2 (k + 1)) := by
      rw [ew _ hot.1 (by omega), wat_set (c := (toP g k).toNat) (by simp)]
      simp only [oK]
      rw [et]
    refine ⟨k + 1, ?_, ?_, sim_of (rn := [((13, 0, 0), (13, 0, 0))]) rfl ?_ ?_⟩
    · (dsimp only; omega)
    · exact okt_D7
    · exact hold_D7
    · ((repeat' (first | exact trivial | apply And.intro)) <;> ((first | refine ⟨_, _, rfl, rfl, ?_⟩ ); first | rfl | (exact cset setA)))
  have hkn : k = g.n.toNat := by simp at h1; omega
  subst hkn
  have ho17 : W17 34000 (oK g w2 g.n.toNat) := ⟨fun j hj => by have := hok.t j hj; omega⟩
  have hoz : ∀ j : Nat, g.n.toNat ≤ j → oK g w2 g.n.toNat j = 0 := fun j hj => oK_zero _ (by omega) j (by omega)
  clear h1 hok
  generalize oK g w2 g.n.toNat = o at *
  conv => whnf
  repeat (first | (refine go_D7 ?_; conv => whnf) | (refine lk_D7 ?_; conv => whnf))
  refine loop_rule (α := Nat) (fun k => [(0, .ref false (gutD false g) 0), (1, .ptr (lentId 0) 0), (9, .v (.int .i64 tt0)), (13, .ptr (13, 0, 0) 0), (16, .v (.int .i64 (ovK g.dp o k))), (17, .v (.int .i64 k))]) (fun k => [(lentId 0, watD w2), ((13, 0, 0), watD (cutW g.dp o k))]) (fun k => k ≤ g.n.toNat) (fun k => g.n.toNat - k) (0) ?_ (sim_of (rn := [((13, 0, 0), (13, 0, 0))]) rfl ?_ ?_) ?_
  · exact okt_D7
  · exact hold_D7
  · ((repeat' (first | exact trivial | apply And.intro)) <;> ((first | refine ⟨_, _, rfl, rfl, ?_⟩ ); first | rfl | (exact cset (by rw [cutW_zero]))))
  intro k hk
  have hov := ovK_in hdp.1 (by omega) ho17 k (by omega)
  conv => whnf
  repeat (first | (refine go_D7 ?_; conv => whnf) | (refine lk_D7 ?_; conv => whnf))
  rw [en]
  cases h1 : decide ((k : Int) < g.n)
  · have hkn : k = g.n.toNat := by simp at h1; omega
    subst hkn
    rw [ovK_same hdp.1 hoz 17 (by omega)]
    conv => whnf
    repeat (first | (refine go_D7 ?_; conv => whnf) | (refine lk_D7 ?_; conv => whnf))
    have e1 : splice (watC w2) 0 (List.take 17 (List.drop 0 (watC (cutW g.dp o g.n.toNat)))) = watC (fun j => cut1 g.dp (o j)) := by
      rw [List.drop_zero, take_full (by simp), splice_all (by simp), cutW_all hdp.1 hoz]
    refine ⟨[], _, rfl, rfl, rfl, ?_, ?_, rfl⟩
    · rfl
    ((repeat' (first | exact trivial | apply And.intro)) <;> (refine ⟨_, rfl, ?_⟩; first | rfl | (exact cset e1)))
  have hkn : k < g.n.toNat := by simp at h1; omega
  have hok := ho17.t k (by omega)
  have ex : IntKind.i64.wrap (o k) = o k := w64 (by omega) (by omega)
  have exd : IntKind.i64.wrap (o k - g.dp) = o k - g.dp := w64 (by omega) (by omega)
  conv => whnf
  repeat (first | (refine go_D7 ?_; conv => whnf) | (refine lk_D7 ?_; conv => whnf))
  rw [cutW_at, ed, ex, exd]
  cases h2 : decide (o k - g.dp > 0)
  · have h2' : ¬ o k - g.dp > 0 := by simpa using h2
    have eo : ovK g.dp o (k + 1) = ovK g.dp o k := by simp only [ovK]; unfold over1; rw [if_neg h2']; omega
    have ec : watC (cutW g.dp o k) = watC (cutW g.dp o (k + 1)) := by rw [cutW_keep h2']
    conv => whnf
    repeat (first | (refine go_D7 ?_; conv => whnf) | (refine lk_D7 ?_; conv => whnf))
    refine ⟨k + 1, ?_, ?_, sim_of (rn := [((13, 0, 0), (13, 0, 0))]) rfl ?_ ?_⟩
    · (dsimp only; omega)
    · exact okt_D7
    · ((repeat' (first | exact trivial | apply And.intro)) <;> (first | rfl | (exact vintS eo) | exact leaf_D7))
    · ((repeat' (first | exact trivial | apply And.intro)) <;> ((first | refine ⟨_, _, rfl, rfl, ?_⟩ ); first | rfl | (exact cset ec)))
  have h2' : o k - g.dp > 0 := by simpa using h2
  have eo : ovK g.dp o (k + 1) = IntKind.i64.wrap (ovK g.dp o k + (o k - g.dp)) := by
    rw [w64 (by omega) (by omega)]
    simp only [ovK]; unfold over1; rw [if_pos h2']
  conv => whnf
  repeat (first | (refine go_D7 ?_; conv => whnf) | (refine lk_D7 ?_; conv => whnf))
  rw [ed32]
  repeat (first | (refine go_D7 ?_; conv => whnf) | (refine lk_D7 ?_; conv => whnf))
  have setA : (watC (cutW g.dp o k)).set (0 + (k : Int).toNat * 1) (.int .i32 g.dp) = watC (cutW g.dp o (k + 1)) := by
    rw [wat_set (c := k) (by simp), cutW_put h2']
  refine ⟨k + 1, ?_, ?_, sim_of (rn := [((13, 0, 0), (13, 0, 0))]) rfl ?_ ?_⟩
  · (dsimp only; omega)
  · exact okt_D7
  · ((repeat' (first | exact trivial | apply And.intro)) <;> (first | rfl | (exact vintS eo) | exact leaf_D7))
  · ((repeat' (first | exact trivial | apply And.intro)) <;> ((first | refine ⟨_, _, rfl, rfl, ?_⟩ ); first | rfl | (exact cset setA)))
theorem clone0_sat (a : Option Addr) (cap : Nat) : Sat Try.prog 57 [.v (.slice a 0 cap)] (.row true 2 (.v (.agg ⟨[]⟩)) 0) := by
  refine satN_of_wp hMix tOk Try.func57 rfl rfl Try.ntmps57 rfl rfl Try.results57 (by kernel_rfl) ?_
  conv => whnf
  repeat (first | (refine go_D7 ?_; conv => whnf) | (refine lk_D7 ?_; conv => whnf))
  cases a with
  | none =>
    conv => whnf
    repeat (first | (refine go_D7 ?_; conv => whnf) | (refine lk_D7 ?_; conv => whnf))
    first | refine ⟨rfl, _, rfl, [_], rfl, ?_, rfl⟩ | refine ⟨_, rfl, [_], rfl, ?_, rfl⟩
    ((repeat' (first | exact trivial | apply And.intro)) <;> first | exact .inl rfl | exact .inr ⟨rfl, rfl⟩)
  | some b =>
    conv => whnf
    repeat (first | (refine go_D7 ?_; conv => whnf) | (refine lk_D7 ?_; conv => whnf))
    first | refine ⟨rfl, _, rfl, [_], rfl, ?_, rfl⟩ | refine ⟨_, rfl, [_], rfl, ?_, rfl⟩
    ((repeat' (first | exact trivial | apply And.intro)) <;> first | exact .inl rfl | exact .inr ⟨rfl, rfl⟩)
theorem clone_sat (ps : List (Int × Int)) (hl : ps.length ≤ 4) : Sat Try.prog 57 [pipesD false ps] (pipesD true ps) := by
  by_cases h0 : ps.length = 0
  · have : ps = [] := List.eq_nil_of_length_eq_zero h0
    subst this
    unfold pipesD
    rw [pipesC_nil]
    exact Sat.row0 clone0_sat
  refine sat_of_wp hMix tOk Try.func57 rfl rfl Try.ntmps57 rfl rfl Try.results57 (by kernel_rfl) ?_
  conv => whnf
  repeat (first | (refine go_D7 ?_; conv => whnf) | (refine lk_D7 ?_; conv => whnf))
  first | refine ⟨rfl, _, rfl, ?_⟩ | refine ⟨_, rfl, ?_⟩
  skip
  refine Eq.trans (b := D.row true 2 (.v (.agg ⟨[] ++ pipesC ps⟩)) (0 + ps.length)) ?_ rfl
  rw [Nat.zero_add]; rfl
theorem own_sat (g : Gut) (hl : g.ps.length ≤ 4) : Sat Try.prog 66 [gutD false g] (gutD true g) := by
  refine sat_of_wp hMix tOk Try.func66 rfl rfl Try.ntmps66 rfl rfl Try.results66 (by kernel_rfl) ?_
  conv => whnf
  repeat (first | (refine go_D7 ?_; conv => whnf) | (refine lk_D7 ?_; conv => whnf))
  first | refine ⟨_, _, rfl, sc_D7 (clone_sat g.ps hl), ?_⟩ | refine .inl ⟨_, _, rfl, sc_D7 (clone_sat g.ps hl), ?_⟩
  conv => whnf
  repeat (first | (refine go_D7 ?_; conv => whnf) | (refine lk_D7 ?_; conv => whnf))
  first | refine ⟨rfl, _, rfl, ?_⟩ | refine ⟨_, rfl, ?_⟩
  skip
  have e : List.take (g.ps.length * 2) (List.drop 0 (pipesC g.ps)) = pipesC g.ps := by rw [List.drop_zero, take_full (by simp)]
  refine Eq.trans (b := one' [.agg (.v (.int .i8 g.n) :: .v (.int .i16 g.dp) :: (hD g.h ++ [.v (.int .u32 g.lv), .row true 2 (.v (.agg ⟨List.take (g.ps.length * 2) (List.drop 0 (pipesC g.ps))⟩)) g.ps.length]))]) ?_ rfl
  rw [e]; rfl
theorem cleaned_sat (g : Gut) (hl : g.ps.length ≤ 4) (c : Nat) (hc : c < 17) : Sat Try.prog 75 [gutD false g, .v (.int .i64 c)] (gutD true (cleanG g c)) := by
  refine sat_of_wp hMix tOk Try.func75 rfl rfl Try.ntmps75 rfl rfl Try.results75 (by kernel_rfl) ?_
  conv => whnf
  repeat (first | (refine go_D7 ?_; conv => whnf) | (refine lk_D7 ?_; conv => whnf))
  first | refine ⟨_, _, rfl, sc_D7 (own_sat g hl), ?_⟩ | refine .inl ⟨_, _, rfl, sc_D7 (own_sat g hl), ?_⟩
  conv => whnf
  repeat (first | (refine go_D7 ?_; conv => whnf) | (refine lk_D7 ?_; conv => whnf))
  first | refine ⟨rfl, _, rfl, ?_⟩ | refine ⟨_, rfl, ?_⟩
  rfl
theorem which_sat (g : Gut) (ho : g.Ok) : Sat Try.prog 41 [gutD false g, .fn (.func 72) [gutD false g] []] (intsD true (toI (lvs g g.n.toNat))) := by
  have hn := ho.n
  refine satN_of_wp hMix tOk Try.func41 rfl rfl Try.ntmps41 rfl rfl Try.results41 (by kernel_rfl) ?_
  conv => whnf
  repeat (first | (refine go_D7 ?_; conv => whnf) | (refine lk_D7 ?_; conv => whnf))
  first | refine ⟨_, _, rfl, sc_D7 (gcells_sat g ho), ?_⟩ | refine .inl ⟨_, _, rfl, sc_D7 (gcells_sat g ho), ?_⟩
  conv => whnf
  repeat (first | (refine go_D7 ?_; conv => whnf) | (refine lk_D7 ?_; conv => whnf))
  refine loop_rule (α := Nat) (fun k => [(1, .fn (.func 72) [gutD false g] []), (5, .slc true 1 (21, 0, 0) 0 (lvs g k).length), (9, .slc true 1 (9, 0, 0) 0 g.n.toNat), (10, .v (.int .i64 g.n.toNat)), (11, .v (.int .i64 k))]) (fun k => [((21, 0, 0), .v (.agg ⟨intsC (toI (lvs g k))⟩)), ((9, 0, 0), .v (.agg ⟨intsC (upL g.n.toNat)⟩))]) (fun k => k ≤ g.n.toNat) (fun k => g.n.toNat - k) (0) ?_ (sim_of (rn := [((21, 0, 0), nilId), ((9, 0, 0), (9, 0, 0))]) rfl ?_ ?_) ?_
  · exact okt_D7
  · ((repeat' (first | exact trivial | apply And.intro)) <;> (first | rfl | (first | exact vslcS (upL_len _) | exact vslcS (upL_len _).symm | exact vintS (congrArg Int.ofNat (upL_len _)) | exact vintS (congrArg Int.ofNat (upL_len _).symm)) | exact leaf_D7))
  · ((repeat' (first | exact trivial | apply And.intro)) <;> ((first | refine ⟨_, _, rfl, rfl, ?_⟩ ); first | rfl | ((exact cset (show [] = intsC [] from intsC_nil.symm)))))
  intro k hk
  have hll := lvs_len g k
  conv => whnf
  repeat (first | (refine go_D7 ?_; conv => whnf) | (refine lk_D7 ?_; conv => whnf))
  cases h : decide ((k : Int) < (g.n.toNat : Int))
  · have hkn : k = g.n.toNat := by simp at h; omega
    subst hkn
    have e : D.row true 1 (.v (.agg ⟨intsC (toI (lvs g g.n.toNat))⟩)) (lvs g g.n.toNat).length = intsD true (toI (lvs g g.n.toNat)) := by unfold intsD; rw [toI_len]
    rw [← e]
    conv => whnf
    repeat (first | (refine go_D7 ?_; conv => whnf) | (refine lk_D7 ?_; conv => whnf))
    first | refine ⟨rfl, _, rfl, [_], rfl, ?_, rfl⟩ | refine ⟨_, rfl, [_], rfl, ?_, rfl⟩
    ((repeat' (first | exact trivial | apply And.intro)) <;> first | exact .inl rfl | exact .inr ⟨rfl, rfl⟩)
  have hkn : k < g.n.toNat := by simp at h; omega
  conv => whnf
  repeat (first | (refine go_D7 ?_; conv => whnf) | (refine lk_D7 ?_; conv => whnf))
  first | refine ⟨_, _, rfl, sc_D7 (hasLeaves_sat g k (by omega)), ?_⟩ | refine .inl ⟨_, _, rfl, sc_D7 (hasLeaves_sat g k (by omega)), ?_⟩
  conv => whnf
  repeat (first | (refine go_D7 ?_; conv => whnf) | (refine lk_D7 ?_; conv => whnf))
  cases h2 : leafB g k
  · have e1 := lvs_no h2
    conv => whnf
    repeat (first | (refine go_D7 ?_; conv => whnf) | (refine lk_D7 ?_; conv => whnf))
    refine ⟨k + 1, ?_, ?_, sim_of (rn := [((21, 0, 0), (21, 0, 0)), ((9, 0, 0), (9, 0, 0))]) rfl ?_ ?_⟩
    · (dsimp only; omega)
    · exact okt_D7
    · ((repeat' (first | exact trivial | apply And.intro)) <;> (first | rfl | (exact vslcS (by rw [e1])) | exact leaf_D7))
    · ((repeat' (first | exact trivial | apply And.intro)) <;> ((first | refine ⟨_, _, rfl, rfl, ?_⟩ ); first | rfl | ((exact cset (by rw [e1])))))
  have e1 := lvs_yes h2
  have e2 : intsC (toI (lvs g k)) ++ [.int .i64 (k : Int)] = intsC (toI (lvs g (k + 1))) := by rw [e1, toI_snoc, intsC_append, intsC_one]
  have e3 : (lvs g (k + 1)).length = (lvs g k).length + 1 := by rw [e1]; simp
  conv => whnf
  repeat (first | (refine go_D7 ?_; conv => whnf) | (refine lk_D7 ?_; conv => whnf))
  refine ⟨k + 1, ?_, ?_, sim_of (rn := [((21, 0, 0), (21, 1, 0)), ((9, 0, 0), (9, 0, 0))]) rfl ?_ ?_⟩
  · (dsimp only; omega)
  · exact okt_D7
  · ((repeat' (first | exact trivial | apply And.intro)) <;> (first | rfl | (exact vslcS e3) | exact leaf_D7))
  · ((repeat' (first | exact trivial | apply And.intro)) <;> ((first | refine ⟨_, _, rfl, rfl, ?_⟩ ); first | rfl | (exact cset e2)))
theorem eachII_sat {g : Nat} {caps : List D} {f : Int → Int} (xs : List Int) (hl : xs.length ≤ 1048576) (m : Bool) (hc : CapOk caps) (hg : ∀ i, i < xs.length → Sat Try.prog g (.v (.int .i64 (ix xs i)) :: caps) (.v (.int .i64 (f (ix xs i))))) :
    Sat Try.prog 73 [intsD m xs, .fn (.func g) [] caps] (intsD true (xs.map f)) := by
  refine satN_of_wp hMix tOk Try.func73 rfl rfl Try.ntmps73 rfl rfl Try.results73 (by kernel_rfl) ?_
  conv => whnf
  repeat (first | (refine go_D7 ?_; conv => whnf) | (refine lk_D7 ?_; conv => whnf))
  refine loop_rule (α := Nat) (fun i => [(1, .fn (.func g) [] caps), (5, .slc true 1 (19, 0, 0) 0 ((xs.take i).map f).length), (8, intsD m xs), (9, .v (.int .i64 xs.length)), (10, .v (.int .i64 i))]) (fun i => [((19, 0, 0), .v (.agg ⟨intsC ((xs.take i).map f)⟩))]) (fun i => i ≤ xs.length) (fun i => xs.length - i) (0) ?_ (sim_of (rn := [((19, 0, 0), nilId)]) rfl ?_ ?_) ?_
  · exact okt_D7
  · exact hold_D7
  · ((repeat' (first | exact trivial | apply And.intro)) <;> ((first | refine ⟨_, _, rfl, rfl, ?_⟩ ); first | rfl | ((exact cset (show [] = intsC [] from intsC_nil.symm)))))
  intro i hi
  have hml : ((xs.take i).map f).length = i := by simp; omega
  conv => whnf
  repeat (first | (refine go_D7 ?_; conv => whnf) | (refine lk_D7 ?_; conv => whnf))
  cases h : decide ((i : Int) < (xs.length : Int))
  · have hin : i = xs.length := by simp at h; omega
    subst hin
    rw [List.take_length]
    conv => whnf
    repeat (first | (refine go_D7 ?_; conv => whnf) | (refine lk_D7 ?_; conv => whnf))
    first | refine ⟨rfl, _, rfl, [_], rfl, ?_, rfl⟩ | refine ⟨_, rfl, [_], rfl, ?_, rfl⟩
    ((repeat' (first | exact trivial | apply And.intro)) <;> first | exact .inl rfl | exact .inr ⟨rfl, rfl⟩)
  have hin : i < xs.length := by simpa using h
  conv => whnf
  repeat (first | (refine go_D7 ?_; conv => whnf) | (refine lk_D7 ?_; conv => whnf))
  first | refine ⟨_, _, CapOk.one (by assumption) rfl, sc_D7 (hg i hin), ?_⟩ | refine .inl ⟨_, _, CapOk.one (by assumption) rfl, sc_D7 (hg i hin), ?_⟩
  conv => whnf
  repeat (first | (refine go_D7 ?_; conv => whnf) | (refine lk_D7 ?_; conv => whnf))
  have e2 : intsC ((xs.take i).map f) ++ [.int .i64 (f (ix xs i))] = intsC ((xs.take (i + 1)).map f) := by rw [itake_next hin, List.map_append, intsC_append, List.map_singleton, intsC_one]
  have hml' : ((xs.take (i + 1)).map f).length = i + 1 := by simp; omega
  refine ⟨i + 1, ?_, ?_, sim_of (rn := [((19, 0, 0), (19, 1, 0))]) rfl ?_ ?_⟩
  · (dsimp only; omega)
  · exact okt_D7
  · ((repeat' (first | exact trivial | apply And.intro)) <;> (first | rfl | (exact vslcS (by omega)) | exact leaf_D7))
  · ((repeat' (first | exact trivial | apply And.intro)) <;> ((first | refine ⟨_, _, rfl, rfl, ?_⟩ ); first | rfl | (exact cset e2)))
theorem bestClean1_sat (g : Gut) (hg : g.In) (ho : g.Ok) (xs : List Int) (hx : RainOk g xs) (M : Nat) (hM : M ≤ 200) (c : Nat) (hc : c < 17) :
    Sat Try.prog 74 [.v (.int .i64 c), .ref false (gutD false g) 0, .ref false (.agg [intsD false xs]) 0, .ref false (.v (.agg ⟨[.int .i64 M]⟩)) 0] (.v (.int .i64 (clO g xs M c))) := by
  refine sat_of_wp hMix tOk Try.func74 rfl rfl Try.ntmps74 rfl rfl Try.results74 (by kernel_rfl) ?_
  conv => whnf
  repeat (first | (refine go_D7 ?_; conv => whnf) | (refine lk_D7 ?_; conv => whnf))
  first | refine ⟨_, _, rfl, sc_D7 (cleaned_sat g ho.len c hc), ?_⟩ | refine .inl ⟨_, _, rfl, sc_D7 (cleaned_sat g ho.len c hc), ?_⟩
  conv => whnf
  repeat (first | (refine go_D7 ?_; conv => whnf) | (refine lk_D7 ?_; conv => whnf))
  first | refine ⟨_, _, rfl, sc_D7 (minutes_sat (cleanG g c) (cleanG_in hg c) (cleanG_ok ho c) (fun _ => 0) ⟨fun _ _ => by omega⟩ xs (cleanG_rain hx c) M hM false), ?_⟩ | refine .inl ⟨_, _, rfl, sc_D7 (minutes_sat (cleanG g c) (cleanG_in hg c) (cleanG_ok ho c) (fun _ => 0) ⟨fun _ _ => by omega⟩ xs (cleanG_rain hx c) M hM false), ?_⟩
  conv => whnf
  repeat (first | (refine go_D7 ?_; conv => whnf) | (refine lk_D7 ?_; conv => whnf))
  first | refine ⟨rfl, _, rfl, ?_⟩ | refine ⟨_, rfl, ?_⟩
  rfl
theorem minI_sat (xs : List Int) (hl : xs.length ≤ 1048576) (hp : 0 < xs.length) (m : Bool) : Sat Try.prog 77 [intsD m xs] (.v (.int .i64 (ix xs (am (ix xs) (xs.length - 1))))) := by
  have h0 : ¬ (xs.length : Int) < 1 := by omega
  refine sat_of_wp hMix tOk Try.func77 rfl rfl Try.ntmps77 rfl rfl Try.results77 (by kernel_rfl) ?_
  conv => whnf
  repeat (first | (refine go_D7 ?_; conv => whnf) | (refine lk_D7 ?_; conv => whnf))
  cases h1 : decide ((xs.length : Int) < 1)
  case true => exact absurd (by simpa using h1) h0
  conv => whnf
  repeat (first | (refine go_D7 ?_; conv => whnf) | (refine lk_D7 ?_; conv => whnf))
  refine loop_rule (α := Nat) (fun i => [(0, intsD m xs), (3, .v (.int .i64 (ix xs (am (ix xs) i)))), (4, .v (.int .i64 ((i + 1 : Nat) : Int)))]) (fun i => []) (fun i => i + 1 ≤ xs.length) (fun i => xs.length - i) (0) ?_ (sim_of (rn := []) rfl ?_ ?_) ?_
  · exact okt_D7
  · exact hold_D7
  · ((repeat' (first | exact trivial | apply And.intro)) <;> ((first | refine ⟨_, _, rfl, rfl, ?_⟩ ); rfl))
  intro i hi
  conv => whnf
  repeat (first | (refine go_D7 ?_; conv => whnf) | (refine lk_D7 ?_; conv => whnf))
  cases h : decide (((i + 1 : Nat) : Int) < (xs.length : Int))
  · have hin : i = xs.length - 1 := by simp at h; omega
    subst hin
    conv => whnf
    repeat (first | (refine go_D7 ?_; conv => whnf) | (refine lk_D7 ?_; conv => whnf))
    first | refine ⟨rfl, _, rfl, ?_⟩ | refine ⟨_, rfl, ?_⟩
    rfl
  have hin : i + 1 < xs.length := by simp at h; omega
  have e1 : ix xs (am (ix xs) (i + 1)) = (if ix xs (i + 1) < ix xs (am (ix xs) i) then ix xs (i + 1) else ix xs (am (ix xs) i)) := by
    simp only [am]; split <;> rfl
  conv => whnf
  repeat (first | (refine go_D7 ?_; conv => whnf) | (refine lk_D7 ?_; conv => whnf))
  refine ⟨i + 1, ?_, ?_, sim_of (rn := []) rfl ?_ ?_⟩
  · (dsimp only; omega)
  · exact okt_D7
  · ((repeat' (first | exact trivial | apply And.intro)) <;> (first | rfl | (exact vintS e1) | exact leaf_D7))
  · ((repeat' (first | exact trivial | apply And.intro)) <;> ((first | refine ⟨_, _, rfl, rfl, ?_⟩ ); rfl))
theorem indexI_sat (xs : List Int) (hl : xs.length ≤ 1048576) (v : Int) (m : Bool) : Sat Try.prog 78 [intsD m xs, .v (.int .i64 v)] (.v (.int .i64 (idxN xs.length fun i => v == ix xs i))) := by
  refine sat_of_wp hMix tOk Try.func78 rfl rfl Try.ntmps78 rfl rfl Try.results78 (by kernel_rfl) ?_
  conv => whnf
  repeat (first | (refine go_D7 ?_; conv => whnf) | (refine lk_D7 ?_; conv => whnf))
  refine loop_rule (α := Nat) (fun i => [(0, intsD m xs), (1, .v (.int .i64 v)), (7, .v (.int .i64 xs.length)), (8, .v (.int .i64 i))]) (fun i => []) (fun i => i ≤ xs.length ∧ ∀ j, j < i → (v == ix xs j) = false) (fun i => xs.length - i) (0) ?_ (sim_of (rn := []) rfl ?_ ?_) ?_
  · exact ⟨Nat.zero_le _, fun j hj => by omega⟩
  · exact hold_D7
  · ((repeat' (first | exact trivial | apply And.intro)) <;> ((first | refine ⟨_, _, rfl, rfl, ?_⟩ ); rfl))
  rintro i ⟨hi, hall⟩
  conv => whnf
  repeat (first | (refine go_D7 ?_; conv => whnf) | (refine lk_D7 ?_; conv => whnf))
  cases h : decide ((i : Int) < (xs.length : Int))
  · have hin : i = xs.length := by simp at h; omega
    subst hin
    rw [idxN_none hall]
    conv => whnf
    repeat (first | (refine go_D7 ?_; conv => whnf) | (refine lk_D7 ?_; conv => whnf))
    first | refine ⟨rfl, _, rfl, ?_⟩ | refine ⟨_, rfl, ?_⟩
    rfl
  have hin : i < xs.length := by simpa using h
  conv => whnf
  repeat (first | (refine go_D7 ?_; conv => whnf) | (refine lk_D7 ?_; conv => whnf))
  cases h5 : (v == ix xs i)
  · have hall' := below_succ (p := fun j => (v == ix xs j) = false) hall h5
    conv => whnf
    repeat (first | (refine go_D7 ?_; conv => whnf) | (refine lk_D7 ?_; conv => whnf))
    refine ⟨i + 1, ?_, ?_, sim_of (rn := []) rfl ?_ ?_⟩
    · (dsimp only; omega)
    · exact ⟨by omega, hall'⟩
    · exact hold_D7
    · ((repeat' (first | exact trivial | apply And.intro)) <;> ((first | refine ⟨_, _, rfl, rfl, ?_⟩ ); rfl))
  rw [idxN_some hin h5 hall]
  conv => whnf
  repeat (first | (refine go_D7 ?_; conv => whnf) | (refine lk_D7 ?_; conv => whnf))
  first | refine ⟨rfl, _, rfl, ?_⟩ | refine ⟨_, rfl, ?_⟩
  rfl
theorem l06Asked_sat (g : Gut) (hg : g.In) (b : Bool) : Sat Try.prog 51 [.ref false (gutD false g) 0, .v (.bool b)] (.v (.int .i64 (askG g b))) := by
  refine sat_of_wp hMix tOk Try.func51 rfl rfl Try.ntmps51 rfl rfl Try.results51 (by kernel_rfl) ?_
  conv => whnf
  repeat (first | (refine go_D7 ?_; conv => whnf) | (refine lk_D7 ?_; conv => whnf))
  first | refine ⟨_, _, rfl, sc_D7 (l06Ok_sat g hg), ?_⟩ | refine .inl ⟨_, _, rfl, sc_D7 (l06Ok_sat g hg), ?_⟩
  conv => whnf
  repeat (first | (refine go_D7 ?_; conv => whnf) | (refine lk_D7 ?_; conv => whnf))
  cases h1 : okG g
  · rw [show askG g b = 1 by unfold askG; rw [h1]; rfl]
    conv => whnf
    repeat (first | (refine go_D7 ?_; conv => whnf) | (refine lk_D7 ?_; conv => whnf))
    first | refine ⟨rfl, _, rfl, ?_⟩ | refine ⟨_, rfl, ?_⟩
    rfl
  cases b
  · rw [show askG g false = 2 by unfold askG; rw [h1]; rfl]
    conv => whnf
    repeat (first | (refine go_D7 ?_; conv => whnf) | (refine lk_D7 ?_; conv => whnf))
    first | refine ⟨rfl, _, rfl, ?_⟩ | refine ⟨_, rfl, ?_⟩
    rfl
  rw [show askG g true = 0 by unfold askG; rw [h1]; rfl]
  conv => whnf
  repeat (first | (refine go_D7 ?_; conv => whnf) | (refine lk_D7 ?_; conv => whnf))
  first | refine ⟨rfl, _, rfl, ?_⟩ | refine ⟨_, rfl, ?_⟩
  rfl
theorem gutterCode_sat (g : Gut) (hg : g.In) (b : Bool) : Sat Try.prog 49 [gutD false g, .v (.bool b)] (.v (.int .i64 (askG g b))) := by
  refine sat_of_wp hMix tOk Try.func49 rfl rfl Try.ntmps49 rfl rfl Try.results49 (by kernel_rfl) ?_
  conv => whnf
  repeat (first | (refine go_D7 ?_; conv => whnf) | (refine lk_D7 ?_; conv => whnf))
  first | refine ⟨_, _, rfl, sc_D7 (validGutter_sat g hg), ?_⟩ | refine .inl ⟨_, _, rfl, sc_D7 (validGutter_sat g hg), ?_⟩
  conv => whnf
  repeat (first | (refine go_D7 ?_; conv => whnf) | (refine lk_D7 ?_; conv => whnf))
  cases h1 : okG g
  · rw [show askG g b = 1 by unfold askG; rw [h1]; rfl]
    conv => whnf
    repeat (first | (refine go_D7 ?_; conv => whnf) | (refine lk_D7 ?_; conv => whnf))
    first | refine ⟨rfl, _, rfl, ?_⟩ | refine ⟨_, rfl, ?_⟩
    rfl
  cases b
  · rw [show askG g false = 2 by unfold askG; rw [h1]; rfl]
    conv => whnf
    repeat (first | (refine go_D7 ?_; conv => whnf) | (refine lk_D7 ?_; conv => whnf))
    first | refine ⟨rfl, _, rfl, ?_⟩ | refine ⟨_, rfl, ?_⟩
    rfl
  rw [show askG g true = 0 by unfold askG; rw [h1]; rfl]
  conv => whnf
  repeat (first | (refine go_D7 ?_; conv => whnf) | (refine lk_D7 ?_; conv => whnf))
  first | refine ⟨rfl, _, rfl, ?_⟩ | refine ⟨_, rfl, ?_⟩
  rfl
theorem l06Spilt_sat (g : Gut) (hg : g.In) (ho : g.Ok) (xs : List Int) (hx : RainOk g xs) (M : Nat) (hM : M ≤ 200) (b : Bool) :
    Sat Try.prog 80 [.ref false (gutD false g) 0, intsD b xs, .v (.int .i64 M)] (.v (.int .i64 (oM g (fun _ => 0) xs M))) := by
  have e17 : watC (fun _ => 0) = List.replicate 17 (.int .i32 0) := watC_zero
  have hw0 : W17 1000 (fun _ => 0) := ⟨fun _ _ => by omega⟩
  refine sat_of_wp hMix tOk Try.func80 rfl rfl Try.ntmps80 rfl rfl Try.results80 (by kernel_rfl) ?_
  conv => whnf
  repeat (first | (refine go_D7 ?_; conv => whnf) | (refine lk_D7 ?_; conv => whnf))
  refine loop_rule (α := Nat) (fun i => [(0, .ref false (gutD false g) 0), (1, intsD b xs), (2, .v (.int .i64 M)), (7, .ptr (7, 0, 0) 0), (8, .v (.int .i64 (oM g (fun _ => 0) xs i))), (9, .v (.int .i64 i))]) (fun i => [((7, 0, 0), watD (wM g (fun _ => 0) xs i))]) (fun i => i ≤ M) (fun i => M - i) (0) ?_ (sim_of (rn := [((7, 0, 0), (7, 0, 0))]) rfl ?_ ?_) ?_
  · exact okt_D7
  · exact hold_D7
  · ((repeat' (first | exact trivial | apply And.intro)) <;> ((first | refine ⟨_, _, rfl, rfl, ?_⟩ ); first | rfl | (exact cset (by first | exact e17.symm | (rw [splice_all (by simp)]; exact e17.symm)))))
  intro i hi
  have hwi := wM_in ho hw0 hx i
  have hoi := oM_in ho hw0 hx i
  conv => whnf
  repeat (first | (refine go_D7 ?_; conv => whnf) | (refine lk_D7 ?_; conv => whnf))
  cases h3 : decide ((i : Int) < (M : Int))
  · have hin : i = M := by simp at h3; omega
    subst hin
    conv => whnf
    repeat (first | (refine go_D7 ?_; conv => whnf) | (refine lk_D7 ?_; conv => whnf))
    first | refine ⟨rfl, _, rfl, ?_⟩ | refine ⟨_, rfl, ?_⟩
    rfl
  have hin : i < M := by simpa using h3
  have hmo := minO_in ho hwi hx
  have e2 : oM g (fun _ => 0) xs (i + 1) = IntKind.i64.wrap (oM g (fun _ => 0) xs i + minO g (wM g (fun _ => 0) xs i) xs) := by rw [w64 (by omega) (by omega)]; rfl
  conv => whnf
  repeat (first | (refine go_D7 ?_; conv => whnf) | (refine lk_D7 ?_; conv => whnf))
  first | refine ⟨[(7, 0, 0)], _, _, _, _, _, _, _, _, rfl, rfl, rfl, rfl, (sm_D7 (l06Minute_satR g hg ho (wM g (fun _ => 0) xs i) hwi xs hx false)), rfl, rfl, rfl, rfl, ?_⟩ | refine .inr ⟨[(7, 0, 0)], _, _, _, _, _, _, _, _, rfl, rfl, rfl, rfl, (sm_D7 (l06Minute_satR g hg ho (wM g (fun _ => 0) xs i) hwi xs hx false)), rfl, rfl, rfl, rfl, ?_⟩ | refine ⟨[(7, 0, 0)], _, _, _, _, _, rfl, rfl, rfl, rfl, (sm_D7 (l06Minute_satR g hg ho (wM g (fun _ => 0) xs i) hwi xs hx false)), rfl, rfl, ?_⟩
  conv => whnf
  repeat (first | (refine go_D7 ?_; conv => whnf) | (refine lk_D7 ?_; conv => whnf))
  refine ⟨i + 1, ?_, ?_, sim_of (rn := [((7, 0, 0), (7, 0, 0))]) rfl ?_ ?_⟩
  · (dsimp only; omega)
  · exact okt_D7
  · ((repeat' (first | exact trivial | apply And.intro)) <;> (first | rfl | (exact vintS e2) | exact leaf_D7))
  · ((repeat' (first | exact trivial | apply And.intro)) <;> ((first | refine ⟨_, _, rfl, rfl, ?_⟩ ); rfl))
theorem specBestClean_sat (g : Gut) (hg : g.In) (xs : List Int) (hl : xs.length ≤ 1048576) (m : Int) (b : Bool) : Sat Try.prog 27 [gutD false g, intsD b xs, .v (.int .i64 m)] (bcV g xs m) := by
  have hn := hg.n
  have en : IntKind.i64.wrap g.n = g.n := w64 (by omega) (by omega)
  have err : ¬ bcA g xs m = 0 → bcK g xs m = bcA g xs m := fun h => by unfold bcK; rw [if_neg h]
  refine sat_of_wp hMix tOk Try.func27 rfl rfl Try.ntmps27 rfl rfl Try.results27 (by kernel_rfl) ?_
  conv => whnf
  repeat (first | (refine go_D7 ?_; conv => whnf) | (refine lk_D7 ?_; conv => whnf))
  first | refine ⟨_, _, rfl, sc_D7 (l06Rain_sat g hg xs hl false), ?_⟩ | refine .inl ⟨_, _, rfl, sc_D7 (l06Rain_sat g hg xs hl false), ?_⟩
  conv => whnf
  repeat (first | (refine go_D7 ?_; conv => whnf) | (refine lk_D7 ?_; conv => whnf))
  cases h1 : rainB g xs
  · conv => whnf
    repeat (first | (refine go_D7 ?_; conv => whnf) | (refine lk_D7 ?_; conv => whnf))
    first | refine ⟨_, _, rfl, sc_D7 (l06Asked_sat g hg _), ?_⟩ | refine .inl ⟨_, _, rfl, sc_D7 (l06Asked_sat g hg _), ?_⟩
    conv => whnf
    repeat (first | (refine go_D7 ?_; conv => whnf) | (refine lk_D7 ?_; conv => whnf))
    have hK : askG g false = bcA g xs m := by unfold bcA; rw [h1]; rfl
    rw [hK]
    refine bsplitT (fun h2 => ?_) (fun h2 => ?_)
    all_goals (conv => whnf)
    all_goals (repeat (first | (refine go_D7 ?_; conv => whnf) | (refine lk_D7 ?_; conv => whnf)))
    · have h2' : ¬ bcA g xs m = 0 := by simpa using h2
      rw [bcV_err (err h2') h2']
      first | refine ⟨rfl, _, rfl, ?_⟩ | refine ⟨_, rfl, ?_⟩
      rfl
    exfalso
    have h2' : bcA g xs m = 0 := by simpa using h2
    rw [← hK] at h2'
    unfold askG at h2'
    split at h2' <;> simp at h2'
  conv => whnf
  repeat (first | (refine go_D7 ?_; conv => whnf) | (refine lk_D7 ?_; conv => whnf))
  first | refine ⟨_, _, rfl, sc_D7 (l00In_sat _ _ _), ?_⟩ | refine .inl ⟨_, _, rfl, sc_D7 (l00In_sat _ _ _), ?_⟩
  conv => whnf
  repeat (first | (refine go_D7 ?_; conv => whnf) | (refine lk_D7 ?_; conv => whnf))
  first | refine ⟨_, _, rfl, sc_D7 (l06Asked_sat g hg _), ?_⟩ | refine .inl ⟨_, _, rfl, sc_D7 (l06Asked_sat g hg _), ?_⟩
  conv => whnf
  repeat (first | (refine go_D7 ?_; conv => whnf) | (refine lk_D7 ?_; conv => whnf))
  have hK : askG g (decide (m ≥ 0) && decide (m ≤ 200)) = bcA g xs m := by unfold bcA; rw [h1]; rfl
  rw [hK]
  refine bsplitT (fun h2 => ?_) (fun h2 => ?_)
  all_goals (conv => whnf)
  all_goals (repeat (first | (refine go_D7 ?_; conv => whnf) | (refine lk_D7 ?_; conv => whnf)))
  · have h2' : ¬ bcA g xs m = 0 := by simpa using h2
    rw [bcV_err (err h2') h2']
    first | refine ⟨rfl, _, rfl, ?_⟩ | refine ⟨_, rfl, ?_⟩
    rfl
  have hz : bcA g xs m = 0 := by simpa using h2
  obtain ⟨ho, hx, hm⟩ := bcA_ok hz
  have hon := ho.n
  obtain ⟨M, rfl⟩ := eq_toNat (x := m) (by omega)
  refine loop_rule (α := Nat) (fun k => [(1, intsD b xs), (2, .v (.int .i64 M)), (3, .ptr (3, 0, 0) 0), (10, .v (.int .i64 (bst (clO g xs M) (lvs g k)).1)), (11, .v (.int .i64 (bst (clO g xs M) (lvs g k)).2)), (12, .v (.int .i64 k))]) (fun k => [((3, 0, 0), gutD false g)]) (fun k => k ≤ g.n.toNat) (fun k => g.n.toNat - k) (0) ?_ (sim_of (rn := [((3, 0, 0), (3, 0, 0))]) rfl ?_ ?_) ?_
  · exact okt_D7
  · exact hold_D7
  · ((repeat' (first | exact trivial | apply And.intro)) <;> ((first | refine ⟨_, _, rfl, rfl, ?_⟩ ); rfl))
  intro k hk
  conv => whnf
  repeat (first | (refine go_D7 ?_; conv => whnf) | (refine lk_D7 ?_; conv => whnf))
  rw [en]
  cases h3 : decide ((k : Int) < g.n)
  · have hkn : k = g.n.toNat := by simp at h3; omega
    subst hkn
    conv => whnf
    repeat (first | (refine go_D7 ?_; conv => whnf) | (refine lk_D7 ?_; conv => whnf))
    cases h4 : decide ((bst (clO g xs M) (lvs g g.n.toNat)).1 < 0)
    · have h4' : ¬ (lvs g g.n.toNat).length = 0 := by
        have : ¬ (bst (clO g xs M) (lvs g g.n.toNat)).1 < 0 := by simpa using h4
        rwa [bst_neg] at this
      have hk0 : bcK g xs (M : Int) = 0 := by unfold bcK; rw [if_pos hz, if_neg h4']
      have hv : bcV g xs (M : Int) = .tup [.v (.int .i64 (bst (clO g xs M) (lvs g g.n.toNat)).1), .v (.int .i64 (bst (clO g xs M) (lvs g g.n.toNat)).2), .v (.int .i64 0)] := by
        unfold bcV bcB; rw [hk0, if_pos rfl]; rfl
      rw [hv]
      conv => whnf
      repeat (first | (refine go_D7 ?_; conv => whnf) | (refine lk_D7 ?_; conv => whnf))
      first | refine ⟨rfl, _, rfl, ?_⟩ | refine ⟨_, rfl, ?_⟩
      rfl
    have h4' : (lvs g g.n.toNat).length = 0 := by
      have : (bst (clO g xs M) (lvs g g.n.toNat)).1 < 0 := by simpa using h4
      rwa [bst_neg] at this
    rw [bcV_err (k := 6) (by unfold bcK; rw [if_pos hz, if_pos h4']) (by decide)]
    conv => whnf
    repeat (first | (refine go_D7 ?_; conv => whnf) | (refine lk_D7 ?_; conv => whnf))
    first | refine ⟨rfl, _, rfl, ?_⟩ | refine ⟨_, rfl, ?_⟩
    rfl
  have hkn : (k : Int) < g.n := by simpa using h3
  conv => whnf
  repeat (first | (refine go_D7 ?_; conv => whnf) | (refine lk_D7 ?_; conv => whnf))
  first | refine ⟨_, _, rfl, sc_D7 (l06Leaf_sat g k (by omega)), ?_⟩ | refine .inl ⟨_, _, rfl, sc_D7 (l06Leaf_sat g k (by omega)), ?_⟩
  conv => whnf
  repeat (first | (refine go_D7 ?_; conv => whnf) | (refine lk_D7 ?_; conv => whnf))
  cases h4 : leafB g k
  · have e1 := lvs_no h4
    conv => whnf
    repeat (first | (refine go_D7 ?_; conv => whnf) | (refine lk_D7 ?_; conv => whnf))
    refine ⟨k + 1, ?_, ?_, sim_of (rn := [((3, 0, 0), (3, 0, 0))]) rfl ?_ ?_⟩
    · (dsimp only; omega)
    · exact okt_D7
    · ((repeat' (first | exact trivial | apply And.intro)) <;> (first | rfl | (exact vintS (by rw [e1])) | exact leaf_D7))
    · ((repeat' (first | exact trivial | apply And.intro)) <;> ((first | refine ⟨_, _, rfl, rfl, ?_⟩ ); rfl))
  have eu : IntKind.u64.wrap (k : Int) = (k : Int) := wu64 (by omega) (by omega)
  have e1 := lvs_yes h4
  have hb := bst_snoc (clO g xs M) (lvs g k) k
  rw [← e1] at hb
  conv => whnf
  repeat (first | (refine go_D7 ?_; conv => whnf) | (refine lk_D7 ?_; conv => whnf))
  rw [eu]
  repeat (first | (refine go_D7 ?_; conv => whnf) | (refine lk_D7 ?_; conv => whnf))
  first | refine ⟨_, _, rfl, sc_D7 (l06Spilt_sat (cleanG g k) (cleanG_in hg k) (cleanG_ok ho k) xs (cleanG_rain hx k) M (by omega) false), ?_⟩ | refine .inl ⟨_, _, rfl, sc_D7 (l06Spilt_sat (cleanG g k) (cleanG_in hg k) (cleanG_ok ho k) xs (cleanG_rain hx k) M (by omega) false), ?_⟩
  conv => whnf
  repeat (first | (refine go_D7 ?_; conv => whnf) | (refine lk_D7 ?_; conv => whnf))
  rw [show oM (cleanG g k) (fun _ => 0) xs M = clO g xs M k from rfl]
  cases h5 : decide ((bst (clO g xs M) (lvs g k)).1 < 0)
  case true =>
    rw [if_pos (.inl (by simpa using h5))] at hb
    conv => whnf
    repeat (first | (refine go_D7 ?_; conv => whnf) | (refine lk_D7 ?_; conv => whnf))
    refine ⟨k + 1, ?_, ?_, sim_of (rn := [((3, 0, 0), (3, 0, 0))]) rfl ?_ ?_⟩
    · (dsimp only; omega)
    · exact okt_D7
    · ((repeat' (first | exact trivial | apply And.intro)) <;> (first | rfl | (exact vintS (by rw [hb])) | exact leaf_D7))
    · ((repeat' (first | exact trivial | apply And.intro)) <;> ((first | refine ⟨_, _, rfl, rfl, ?_⟩ ); rfl))
  conv => whnf
  repeat (first | (refine go_D7 ?_; conv => whnf) | (refine lk_D7 ?_; conv => whnf))
  cases h6 : decide (clO g xs M k < (bst (clO g xs M) (lvs g k)).2)
  case true =>
    rw [if_pos (.inr (by simpa using h6))] at hb
    conv => whnf
    repeat (first | (refine go_D7 ?_; conv => whnf) | (refine lk_D7 ?_; conv => whnf))
    refine ⟨k + 1, ?_, ?_, sim_of (rn := [((3, 0, 0), (3, 0, 0))]) rfl ?_ ?_⟩
    · (dsimp only; omega)
    · exact okt_D7
    · ((repeat' (first | exact trivial | apply And.intro)) <;> (first | rfl | (exact vintS (by rw [hb])) | exact leaf_D7))
    · ((repeat' (first | exact trivial | apply And.intro)) <;> ((first | refine ⟨_, _, rfl, rfl, ?_⟩ ); rfl))
  rw [if_neg (by simp at h5 h6; omega)] at hb
  conv => whnf
  repeat (first | (refine go_D7 ?_; conv => whnf) | (refine lk_D7 ?_; conv => whnf))
  refine ⟨k + 1, ?_, ?_, sim_of (rn := [((3, 0, 0), (3, 0, 0))]) rfl ?_ ?_⟩
  · (dsimp only; omega)
  · exact okt_D7
  · ((repeat' (first | exact trivial | apply And.intro)) <;> (first | rfl | (exact vintS (by rw [hb])) | exact leaf_D7))
  · ((repeat' (first | exact trivial | apply And.intro)) <;> ((first | refine ⟨_, _, rfl, rfl, ?_⟩ ); rfl))
theorem bestClean_sat (g : Gut) (hg : g.In) (xs : List Int) (hl : xs.length ≤ 1048576) (m : Int) (b : Bool) : Sat Try.prog 26 [gutD false g, intsD b xs, .v (.int .i64 m)] (bcV g xs m) := by
  have err : ¬ bcA g xs m = 0 → bcK g xs m = bcA g xs m := fun h => by unfold bcK; rw [if_neg h]
  refine sat_of_wp hMix tOk Try.func26 rfl rfl Try.ntmps26 rfl rfl Try.results26 (by kernel_rfl) ?_
  conv => whnf
  repeat (first | (refine go_D7 ?_; conv => whnf) | (refine lk_D7 ?_; conv => whnf))
  first | refine ⟨_, _, rfl, sc_D7 (isRain_sat g hg xs hl false), ?_⟩ | refine .inl ⟨_, _, rfl, sc_D7 (isRain_sat g hg xs hl false), ?_⟩
  conv => whnf
  repeat (first | (refine go_D7 ?_; conv => whnf) | (refine lk_D7 ?_; conv => whnf))
  cases h1 : rainB g xs
  · conv => whnf
    repeat (first | (refine go_D7 ?_; conv => whnf) | (refine lk_D7 ?_; conv => whnf))
    first | refine ⟨_, _, rfl, sc_D7 (gutterCode_sat g hg _), ?_⟩ | refine .inl ⟨_, _, rfl, sc_D7 (gutterCode_sat g hg _), ?_⟩
    conv => whnf
    repeat (first | (refine go_D7 ?_; conv => whnf) | (refine lk_D7 ?_; conv => whnf))
    have hK : askG g false = bcA g xs m := by unfold bcA; rw [h1]; rfl
    rw [hK]
    refine bsplitT (fun h2 => ?_) (fun h2 => ?_)
    all_goals (conv => whnf)
    all_goals (repeat (first | (refine go_D7 ?_; conv => whnf) | (refine lk_D7 ?_; conv => whnf)))
    · have h2' : ¬ bcA g xs m = 0 := by simpa using h2
      rw [bcV_err (err h2') h2']
      first | refine ⟨rfl, _, rfl, ?_⟩ | refine ⟨_, rfl, ?_⟩
      rfl
    exfalso
    have h2' : bcA g xs m = 0 := by simpa using h2
    rw [← hK] at h2'
    unfold askG at h2'
    split at h2' <;> simp at h2'
  conv => whnf
  repeat (first | (refine go_D7 ?_; conv => whnf) | (refine lk_D7 ?_; conv => whnf))
  first | refine ⟨_, _, rfl, sc_D7 (isMinutes_sat _), ?_⟩ | refine .inl ⟨_, _, rfl, sc_D7 (isMinutes_sat _), ?_⟩
  conv => whnf
  repeat (first | (refine go_D7 ?_; conv => whnf) | (refine lk_D7 ?_; conv => whnf))
  first | refine ⟨_, _, rfl, sc_D7 (gutterCode_sat g hg _), ?_⟩ | refine .inl ⟨_, _, rfl, sc_D7 (gutterCode_sat g hg _), ?_⟩
  conv => whnf
  repeat (first | (refine go_D7 ?_; conv => whnf) | (refine lk_D7 ?_; conv => whnf))
  have hK : askG g (decide (0 ≤ m) && decide (m ≤ 200)) = bcA g xs m := by unfold bcA; rw [h1]; rfl
  rw [hK]
  refine bsplitT (fun h2 => ?_) (fun h2 => ?_)
  all_goals (conv => whnf)
  all_goals (repeat (first | (refine go_D7 ?_; conv => whnf) | (refine lk_D7 ?_; conv => whnf)))
  · have h2' : ¬ bcA g xs m = 0 := by simpa using h2
    rw [bcV_err (err h2') h2']
    first | refine ⟨rfl, _, rfl, ?_⟩ | refine ⟨_, rfl, ?_⟩
    rfl
  have hz : bcA g xs m = 0 := by simpa using h2
  obtain ⟨ho, hx, hm⟩ := bcA_ok hz
  have hon := ho.n
  obtain ⟨M, rfl⟩ := eq_toNat (x := m) (by omega)
  first | refine ⟨_, _, rfl, sc_D7 (which_sat g ho), ?_⟩ | refine .inl ⟨_, _, rfl, sc_D7 (which_sat g ho), ?_⟩
  conv => whnf
  repeat (first | (refine go_D7 ?_; conv => whnf) | (refine lk_D7 ?_; conv => whnf))
  have hll := lvs_len g g.n.toNat
  cases h3 : (((toI (lvs g g.n.toNat)).length : Int) == 0)
  case true =>
    have h3' : (lvs g g.n.toNat).length = 0 := by simpa using h3
    rw [bcV_err (k := 6) (by unfold bcK; rw [if_pos hz, if_pos h3']) (by decide)]
    conv => whnf
    repeat (first | (refine go_D7 ?_; conv => whnf) | (refine lk_D7 ?_; conv => whnf))
    first | refine ⟨rfl, _, rfl, ?_⟩ | refine ⟨_, rfl, ?_⟩
    rfl
  have h3' : ¬ (lvs g g.n.toNat).length = 0 := by
    intro h; rw [toI_len, h] at h3; cases h3
  have hk0 : bcK g xs (M : Int) = 0 := by unfold bcK; rw [if_pos hz, if_neg h3']
  have hv : bcV g xs (M : Int) = .tup [.v (.int .i64 (bst (clO g xs M) (lvs g g.n.toNat)).1), .v (.int .i64 (bst (clO g xs M) (lvs g g.n.toNat)).2), .v (.int .i64 0)] := by
    unfold bcV bcB; rw [hk0, if_pos rfl]; rfl
  rw [hv]
  have hcap : CapOk [.ref false (gutD false g) 0, .ref false (.agg [intsD false xs]) 0, .ref false (.v (.agg ⟨[.int .i64 M]⟩)) 0] := ⟨fun _ => rfl, fun _ => rfl⟩
  generalize hlse : lvs g g.n.toNat = ls at *
  have hlt : ∀ i, i < ls.length → nx ls i < g.n.toNat := fun i hi => lvs_lt (g := g) (by rw [hlse]; exact nx_mem hi)
  conv => whnf
  repeat (first | (refine go_D7 ?_; conv => whnf) | (refine lk_D7 ?_; conv => whnf))
  have hys : ((toI ls).map fun c => clO g xs M c.toNat).length = ls.length := by simp
  have hyx : ∀ i, i < ls.length → ix ((toI ls).map fun c => clO g xs M c.toNat) i = clO g xs M (nx ls i) := fun i hi => by
    rw [map_ix (by rw [toI_len]; exact hi), toI_ix hi, Int.toNat_natCast]
  have hag : am (ix ((toI ls).map fun c => clO g xs M c.toNat)) (ls.length - 1) = am (fun i => clO g xs M (nx ls i)) (ls.length - 1) := am_congr fun j hj => hyx j (by omega)
  have hal := am_le (fun i => clO g xs M (nx ls i)) (ls.length - 1)
  have hbs : bst (clO g xs M) ls = (((nx ls (am (fun i => clO g xs M (nx ls i)) (ls.length - 1)) : Nat) : Int), clO g xs M (nx ls (am (fun i => clO g xs M (nx ls i)) (ls.length - 1)))) := by
    unfold bst; rw [if_neg h3']
  rw [hbs]
  first | refine ⟨_, _, rfl, sc_D7 (eachII_sat (f := fun c => clO g xs M c.toNat) (toI ls) (by rw [toI_len]; omega) false hcap (fun i hi => by rw [toI_ix (by rw [toI_len] at hi; exact hi), Int.toNat_natCast]; exact bestClean1_sat g hg ho xs hx M (by omega) _ (by have := hlt i (by rw [toI_len] at hi; exact hi); omega))), ?_⟩ | refine .inl ⟨_, _, rfl, sc_D7 (eachII_sat (f := fun c => clO g xs M c.toNat) (toI ls) (by rw [toI_len]; omega) false hcap (fun i hi => by rw [toI_ix (by rw [toI_len] at hi; exact hi), Int.toNat_natCast]; exact bestClean1_sat g hg ho xs hx M (by omega) _ (by have := hlt i (by rw [toI_len] at hi; exact hi); omega))), ?_⟩
  conv => whnf
  repeat (first | (refine go_D7 ?_; conv => whnf) | (refine lk_D7 ?_; conv => whnf))
  generalize hyse : ((toI ls).map fun c => clO g xs M c.toNat) = ys at *
  first | refine ⟨_, _, rfl, sc_D7 (minI_sat ys (by omega) (by omega) false), ?_⟩ | refine .inl ⟨_, _, rfl, sc_D7 (minI_sat ys (by omega) (by omega) false), ?_⟩
  conv => whnf
  repeat (first | (refine go_D7 ?_; conv => whnf) | (refine lk_D7 ?_; conv => whnf))
  first | refine ⟨_, _, rfl, sc_D7 (indexI_sat ys (by omega) _ false), ?_⟩ | refine .inl ⟨_, _, rfl, sc_D7 (indexI_sat ys (by omega) _ false), ?_⟩
  conv => whnf
  repeat (first | (refine go_D7 ?_; conv => whnf) | (refine lk_D7 ?_; conv => whnf))
  have hidx : idxN ys.length (fun i => ix ys (am (ix ys) (ys.length - 1)) == ix ys i) = ((am (fun i => clO g xs M (nx ls i)) (ls.length - 1) : Nat) : Int) := by
    rw [hys, hag]
    refine idxN_some (by omega) (by simp) fun j hj => ?_
    have h1 := am_first (fun i => clO g xs M (nx ls i)) (ls.length - 1) j hj
    rw [hyx _ (by omega), hyx _ (by omega)]
    simp
    omega
  rw [hidx]
  generalize hae : am (fun i => clO g xs M (nx ls i)) (ls.length - 1) = a at *
  have hla : nth (intsC (toI ls)) (0 + ((a : Nat) : Int).toNat * 1) = some (.int .i64 ((nx ls a : Nat) : Int)) := by
    rw [intA (by rw [toI_len]; omega), toI_ix (by omega)]
  have hlen : (toI ls).length = ls.length := toI_len ls
  repeat (first | (refine go_D7 ?_; conv => whnf) | (refine lk_D7 ?_; conv => whnf))
  first | refine ⟨rfl, _, rfl, ?_⟩ | refine ⟨_, rfl, ?_⟩
  skip
  rw [hys, hag, hyx _ (by omega), toI_ix (by omega)]; rfl
end Go.Proofs.Ytcnenmcagkbppaa
/- Gutters: where water ends, basins, the fewest pipes, slopes, leaves: plain laws. -/
set_option linter.unusedVariables false
set_option linter.unusedSimpArgs false
namespace Go.V
/-! Gutters: where water ends, without the program. -/
/-- A cell from which nothing flows, pipes aside. -/
def StopC (g : Gut) (c : Nat) : Prop := leafB g c = true ∨ (lowL g c = false ∧ ¬ ((c : Int) + 1 < g.n ∧ g.h (c + 1) < g.h c))
theorem toP_neg {g : Gut} {c : Nat} : toP g c < 0 ↔ hasB g c = true ∨ StopC g c := by
  unfold toP StopC
  by_cases h1 : (leafB g c || hasB g c) = true
  · rw [if_pos h1]
    rw [Bool.or_eq_true] at h1
    refine ⟨fun _ => ?_, fun _ => by omega⟩
    rcases h1 with h | h
    · exact .inr (.inl h)
    · exact .inl h
  · rw [if_neg h1]
    rw [Bool.or_eq_true, not_or] at h1
    by_cases h3 : lowL g c = true
    · have h4 : 0 < c := by unfold lowL at h3; simp at h3; exact h3.1
      rw [if_pos h3]
      constructor
      · intro h
        split at h <;> omega
      · rintro (h | h | h)
        · exact absurd h h1.2
        · exact absurd h h1.1
        · rw [h3] at h; cases h.1
    · rw [if_neg h3]
      by_cases h4 : (c : Int) + 1 < g.n ∧ g.h (c + 1) < g.h c
      · rw [if_pos h4]
        constructor
        · intro h; omega
        · rintro (h | h | h)
          · exact absurd h h1.2
          · exact absurd h h1.1
          · exact absurd h4 h.2
      · rw [if_neg h4]
        exact ⟨fun _ => .inr (.inr ⟨by simpa using h3, h4⟩), fun _ => by omega⟩
theorem toP_low {g : Gut} {c : Nat} (hc : (c : Int) < g.n) (h : 0 ≤ toP g c) : g.h (toP g c).toNat < g.h c ∧ ((toP g c).toNat : Int) < g.n := by
  have hr := toP_range hc
  refine ⟨?_, by omega⟩
  unfold toP at *
  split at h
  · omega
  · rename_i h0
    rw [if_neg h0]
    split at h
    · rename_i h1
      have h2 : 0 < c ∧ g.h (c - 1) < g.h c := by unfold lowL at h1; simpa using h1
      rw [if_pos h1]
      split at h
      · rename_i h3
        rw [if_pos h3, show ((c : Int) + 1).toNat = c + 1 by omega]; omega
      · rename_i h3
        rw [if_neg h3, show ((c : Int) - 1).toNat = c - 1 by omega]; exact h2.2
    · rename_i h1
      rw [if_neg h1]
      split at h
      · rename_i h3
        rw [if_pos h3, show ((c : Int) + 1).toNat = c + 1 by omega]; exact h3.2
      · omega
/-- The cell in which water ends. -/
def endN (g : Gut) : Nat → Nat → Nat
  | 0, c => c
  | n + 1, c => if toP g c < 0 then c else endN g n (toP g c).toNat
def endP (g : Gut) (c : Nat) : Nat := endN g 10 c
structure Gut.Hi (g : Gut) : Prop where
  n : 1 ≤ g.n ∧ g.n ≤ 17
  h : ∀ k, k < 17 → 0 ≤ g.h k ∧ g.h k ≤ 9
theorem Gut.Ok.hi {g : Gut} (h : g.Ok) : g.Hi := ⟨h.n, h.h⟩
theorem endN_fix {g : Gut} (hg : g.Hi) : ∀ (n c : Nat), (c : Int) < g.n → g.h c < n → toP g (endN g n c) < 0 ∧ (endN g n c : Int) < g.n ∧ ∀ m, n ≤ m → endN g m c = endN g n c
  | 0, c, hc, h => by
    have := (hg.h c (by have := hg.n; omega)).1
    omega
  | n + 1, c, hc, h => by
    rw [endN]
    by_cases ht : toP g c < 0
    · rw [if_pos ht]
      refine ⟨ht, hc, fun m hm => ?_⟩
      obtain ⟨k, rfl⟩ : ∃ k, m = k + 1 := ⟨m - 1, by omega⟩
      rw [endN, if_pos ht]
    · rw [if_neg ht]
      have hl := toP_low hc (by omega)
      obtain ⟨h1, h2, h3⟩ := endN_fix hg n (toP g c).toNat hl.2 (by omega)
      refine ⟨h1, h2, fun m hm => ?_⟩
      obtain ⟨k, rfl⟩ : ∃ k, m = k + 1 := ⟨m - 1, by omega⟩
      rw [endN, if_neg ht, h3 k (by omega)]
theorem endP_is {g : Gut} (hg : g.Hi) {c : Nat} (hc : (c : Int) < g.n) : toP g (endP g c) < 0 ∧ (endP g c : Int) < g.n := by
  have := hg.h c (by have := hg.n; omega)
  have := endN_fix hg 10 c hc (by omega)
  exact ⟨this.1, this.2.1⟩
theorem endP_stop {g : Gut} {c : Nat} (h : toP g c < 0) : endP g c = c := by unfold endP; rw [endN, if_pos h]
theorem endP_step {g : Gut} (hg : g.Hi) {c : Nat} (hc : (c : Int) < g.n) (h : 0 ≤ toP g c) : endP g c = endP g (toP g c).toNat := by
  have h1 := hg.h c (by have := hg.n; omega)
  have hl := toP_low hc h
  unfold endP
  conv => lhs; rw [endN, if_neg (by omega)]
  exact ((endN_fix hg 9 _ hl.2 (by omega)).2.2 10 (by omega)).symm
/-! Basins. -/
def bsL (g : Gut) (k : Nat) : List Nat := (List.range g.n.toNat).filter fun c => decide (endP g c = k)
def unL (g : Gut) : List Nat := (List.range g.n.toNat).filter fun c => !hasB g (endP g c)
theorem bs_pos {g : Gut} (hg : g.Hi) {k : Nat} (hk : (k : Int) < g.n) : 0 < (bsL g k).length ↔ toP g k < 0 := by
  constructor
  · intro h
    obtain ⟨c, hc⟩ := List.exists_mem_of_length_pos h
    unfold bsL at hc
    simp only [List.mem_filter, List.mem_range, decide_eq_true_eq] at hc
    have := (endP_is hg (c := c) (by omega)).1
    rw [hc.2] at this; exact this
  · intro h
    refine List.length_pos_of_mem (a := k) ?_
    unfold bsL
    simp only [List.mem_filter, List.mem_range, decide_eq_true_eq]
    exact ⟨by omega, endP_stop h⟩
def smB (g : Gut) : Nat → Nat
  | 0 => 0
  | k + 1 => smB g k + (bsL g k).length
theorem filter_split {α : Type} (f : α → Nat) (k : Nat) : ∀ l : List α, (l.filter fun c => decide (f c < k + 1)).length = (l.filter fun c => decide (f c < k)).length + (l.filter fun c => decide (f c = k)).length
  | [] => rfl
  | c :: l => by
    have ih := filter_split f k l
    simp only [List.filter_cons]
    by_cases h1 : f c < k
    · simp only [show decide (f c < k + 1) = true by simp; omega, show decide (f c < k) = true by simp [h1], show decide (f c = k) = false by simp; omega, if_true, List.length_cons, Bool.false_eq_true, if_false]; omega
    · by_cases h2 : f c = k
      · simp only [show decide (f c < k + 1) = true by simp; omega, show decide (f c < k) = false by simp; omega, show decide (f c = k) = true by simp [h2], if_true, List.length_cons, Bool.false_eq_true, if_false]; omega
      · simp only [show decide (f c < k + 1) = false by simp; omega, show decide (f c < k) = false by simp; omega, show decide (f c = k) = false by simp [h2], Bool.false_eq_true, if_false]; exact ih
theorem smB_eq (g : Gut) : ∀ k, smB g k = ((List.range g.n.toNat).filter fun c => decide (endP g c < k)).length
  | 0 => by
    have : ((List.range g.n.toNat).filter fun c => decide (endP g c < 0)) = [] := by rw [List.filter_eq_nil_iff]; intro c _; simp
    rw [this]; rfl
  | k + 1 => by rw [smB, smB_eq g k, filter_split]; rfl
theorem smB_all {g : Gut} (hg : g.Hi) : smB g g.n.toNat = g.n.toNat := by
  rw [smB_eq]
  have : ((List.range g.n.toNat).filter fun c => decide (endP g c < g.n.toNat)) = List.range g.n.toNat := by
    rw [List.filter_eq_self]
    intro c hc
    rw [List.mem_range] at hc
    have := (endP_is hg (c := c) (by omega)).2
    simp; omega
  rw [this, List.length_range]
/-! The fewest pipes. -/
def noP (g : Gut) : Gut := { g with ps := [] }
def fwL (g : Gut) : List Nat := (List.range g.n.toNat).filter fun c => decide (toP (noP g) c < 0)
theorem noP_hi {g : Gut} (h : g.Hi) : (noP g).Hi := ⟨h.n, h.h⟩
theorem stop_ps {g : Gut} {c : Nat} (ps : List (Int × Int)) : StopC { g with ps := ps } c ↔ StopC g c := Iff.rfl
theorem hasB_mem {g : Gut} {c : Nat} : hasB g c = true ↔ ∃ q ∈ g.ps, q.1 = (c : Int) := by
  unfold hasB px
  simp only [List.any_eq_true, List.mem_range, beq_iff_eq]
  constructor
  · rintro ⟨i, hi, h⟩
    exact ⟨g.ps.getD i (0, 0), by rw [List.getD_eq_getElem?_getD, List.getElem?_eq_getElem hi]; exact List.getElem_mem hi, h⟩
  · rintro ⟨q, hq, h⟩
    obtain ⟨i, hi, e⟩ := List.getElem_of_mem hq
    exact ⟨i, hi, by rw [List.getD_eq_getElem?_getD, List.getElem?_eq_getElem hi]; simp [e, h]⟩
theorem toP_noP {g : Gut} {c : Nat} : toP (noP g) c < 0 ↔ StopC g c := by
  rw [toP_neg]
  have : hasB (noP g) c = false := by
    cases h : hasB (noP g) c
    · rfl
    · obtain ⟨q, hq, _⟩ := hasB_mem.1 h
      cases hq
  rw [this]
  simp only [Bool.false_eq_true, false_or]
  exact stop_ps []
theorem fw_mem {g : Gut} {c : Nat} : c ∈ fwL g ↔ (c : Int) < g.n ∧ StopC g c := by
  unfold fwL
  simp only [List.mem_filter, List.mem_range, decide_eq_true_eq, toP_noP]
  constructor
  · rintro ⟨h1, h2⟩; exact ⟨by omega, h2⟩
  · rintro ⟨h1, h2⟩; exact ⟨by omega, h2⟩
theorem fw_pos {g : Gut} (hg : g.Hi) : 0 < (fwL g).length := by
  have hn := hg.n
  have := endP_is (noP_hi hg) (c := 0) (by show ((0 : Nat) : Int) < g.n; omega)
  exact List.length_pos_of_mem (fw_mem.2 ⟨this.2, toP_noP.1 this.1⟩)
theorem fw_sorted (g : Gut) : (fwL g).Pairwise (· < ·) := List.Pairwise.filter _ List.pairwise_lt_range
def onP (g : Gut) (L : List Nat) : Gut := { g with ps := L.map fun (c : Nat) => ((c : Int), (1 : Int)) }
theorem onP_hi {g : Gut} (h : g.Hi) (L : List Nat) : (onP g L).Hi := ⟨h.n, h.h⟩
theorem onP_has {g : Gut} {L : List Nat} {c : Nat} : hasB (onP g L) c = true ↔ c ∈ L := by
  rw [hasB_mem]
  unfold onP
  constructor
  · rintro ⟨q, hq, h⟩
    obtain ⟨x, hx, rfl⟩ := List.mem_map.1 hq
    simp only at h
    rw [show c = x by omega]; exact hx
  · intro h
    exact ⟨((c : Int), 1), List.mem_map.2 ⟨c, h, rfl⟩, rfl⟩
/-- With the fewest pipes nothing is undrained. -/
theorem full_dry {g : Gut} (hg : g.Hi) : unL (onP g (fwL g)) = [] := by
  unfold unL
  rw [List.filter_eq_nil_iff]
  intro c hc
  rw [List.mem_range] at hc
  have hcn : (c : Int) < g.n := by have : c < g.n.toNat := hc; omega
  have he := endP_is (onP_hi hg (fwL g)) (c := c) hcn
  have : hasB (onP g (fwL g)) (endP (onP g (fwL g)) c) = true := by
    rcases toP_neg.1 he.1 with h | h
    · exact h
    · exact onP_has.2 (fw_mem.2 ⟨he.2, (stop_ps _).1 h⟩)
  rw [this]; simp
/-- With one of them less something is. -/
theorem less_wet {g : Gut} (hg : g.Hi) {L : List Nat} {c : Nat} (hc : c ∈ fwL g) (hL : c ∉ L) : 0 < (unL (onP g L)).length := by
  obtain ⟨h1, h2⟩ := fw_mem.1 hc
  have ht : toP (onP g L) c < 0 := toP_neg.2 (.inr ((stop_ps _).2 h2))
  refine List.length_pos_of_mem (a := c) ?_
  unfold unL
  simp only [List.mem_filter, List.mem_range]
  refine ⟨by show c < g.n.toNat; omega, ?_⟩
  rw [endP_stop ht]
  cases hh : hasB (onP g L) c
  · rfl
  · exact absurd (onP_has.1 hh) hL
theorem without_not {L : List Nat} (h : L.Pairwise (· < ·)) {i : Nat} (hi : i < L.length) : L.getD i 0 ∉ L.take i ++ L.drop (i + 1) := by
  rw [List.getD_eq_getElem?_getD, List.getElem?_eq_getElem hi, Option.getD_some]
  rw [List.pairwise_iff_getElem] at h
  intro hm
  rcases List.mem_append.1 hm with hm | hm
  · obtain ⟨j, hj, e⟩ := List.getElem_of_mem hm
    rw [List.length_take] at hj
    rw [List.getElem_take] at e
    have := h j i (by omega) hi (by omega)
    omega
  · obtain ⟨j, hj, e⟩ := List.getElem_of_mem hm
    rw [List.length_drop] at hj
    rw [List.getElem_drop] at e
    have := h i (i + 1 + j) hi (by omega) (by omega)
    omega
/-- Gutters with such pipes are valid. -/
theorem onP_ok {g : Gut} (h : okG g = true) {L : List Nat} (hs : L.Pairwise (· < ·)) (hm : ∀ c ∈ L, (c : Int) < g.n) (hl : L.length ≤ 4) : okG (onP g L) = true := by
  unfold okG at *
  simp only [Bool.and_eq_true] at h ⊢
  obtain ⟨⟨h1, h2⟩, h3⟩ := h
  refine ⟨⟨?_, h2⟩, ?_⟩
  · unfold okG0 at *
    simp only [Bool.and_eq_true] at h1 ⊢
    exact ⟨h1.1, by simp [onP]; omega⟩
  · rw [allN_iff]
    intro i hi
    have hi' : i < L.length := by simpa [onP] using hi
    have hp : ∀ j, j < L.length → px (onP g L).ps j = (((L.getD j 0 : Nat) : Int), (1 : Int)) := fun j hj => by
      unfold px onP
      rw [List.getD_eq_getElem?_getD, List.getElem?_map, List.getD_eq_getElem?_getD]
      simp [hj]
    unfold pOk
    rw [hp i hi']
    have hmi : L.getD i 0 ∈ L := by rw [List.getD_eq_getElem?_getD, List.getElem?_eq_getElem hi']; exact List.getElem_mem hi'
    have := hm _ hmi
    simp only [Bool.and_eq_true, Bool.or_eq_true, decide_eq_true_eq, beq_iff_eq, deepB]
    refine ⟨⟨⟨by omega, by show _ ≤ g.n - 1; omega⟩, by omega, by omega⟩, ?_⟩
    by_cases h0 : i = 0
    · exact .inl h0
    · right
      rw [hp (i - 1) (by omega)]
      rw [List.pairwise_iff_getElem] at hs
      have := hs (i - 1) i (by omega) hi' (by omega)
      simp only [List.getD_eq_getElem?_getD, List.getElem?_eq_getElem hi', List.getElem?_eq_getElem (show i - 1 < L.length by omega), Option.getD_some]
      omega
/-! Gutters that slope to pipes. -/
def farI (a b : Int) : Int := if a - b < b - a then b - a else a - b
def slH (ps : List (Int × Int)) (c : Nat) : Int := ps.foldl (fun m q => minI m (farI c q.1)) 9
theorem slF_le (c : Nat) : ∀ (ps : List (Int × Int)) (m : Int), ps.foldl (fun m q => minI m (farI c q.1)) m ≤ m ∧ (∀ q ∈ ps, ps.foldl (fun m q => minI m (farI c q.1)) m ≤ farI c q.1) ∧
    (ps.foldl (fun m q => minI m (farI c q.1)) m = m ∨ ∃ q ∈ ps, ps.foldl (fun m q => minI m (farI c q.1)) m = farI c q.1)
  | [], m => by
    refine ⟨Int.le_refl _, ?_, .inl rfl⟩
    intro q hq
    simp at hq
  | p :: ps, m => by
    obtain ⟨h1, h2, h3⟩ := slF_le c ps (minI m (farI c p.1))
    have hm := minI_le m (farI c p.1)
    rw [List.foldl_cons]
    generalize ps.foldl (fun m q => minI m (farI c q.1)) (minI m (farI c p.1)) = z at *
    refine ⟨by omega, fun q hq => ?_, ?_⟩
    · rcases List.mem_cons.1 hq with rfl | hq
      · omega
      · exact h2 q hq
    · rcases h3 with h3 | ⟨q, hq, h3⟩
      · have : minI m (farI c p.1) = m ∨ minI m (farI c p.1) = farI c p.1 := by unfold minI; split <;> simp
        rcases this with h | h
        · exact .inl (by omega)
        · exact .inr ⟨p, by simp, by omega⟩
      · exact .inr ⟨q, by simp [hq], h3⟩
def slG (n dp : Int) (ps : List (Int × Int)) : Gut := ⟨n, dp, fun k => if (k : Int) < n then slH ps k else 0, 0, ps⟩
theorem slG_at {n dp : Int} {ps : List (Int × Int)} {k : Nat} (h : (k : Int) < n) : (slG n dp ps).h k = slH ps k := by unfold slG; simp only; rw [if_pos h]
theorem farI_nn (a b : Int) : 0 ≤ farI a b := by unfold farI; split <;> omega
theorem slH_in (ps : List (Int × Int)) (c : Nat) : 0 ≤ slH ps c ∧ slH ps c ≤ 9 := by
  obtain ⟨h1, _, h3⟩ := slF_le c ps 9
  refine ⟨?_, h1⟩
  unfold slH
  rcases h3 with h | ⟨q, _, h⟩
  · omega
  · have := farI_nn c q.1; omega
theorem slG_hi {n dp : Int} {ps : List (Int × Int)} (hn : 1 ≤ n ∧ n ≤ 17) : (slG n dp ps).Hi := ⟨hn, fun k _ => by
  have := slH_in ps k
  unfold slG; simp only; split <;> omega⟩
theorem leaf_none {g : Gut} (h : g.lv = 0) (c : Nat) : leafB g c = false := by
  unfold leafB
  rw [h, Int.zero_fdiv]
  rfl
/-- With pipes at some cell all of a gutter that slopes to them is drained. -/
theorem slope_dry {n dp : Int} {ps : List (Int × Int)} (hn : 1 ≤ n ∧ n ≤ 9) (hp : ∀ q ∈ ps, 0 ≤ q.1 ∧ q.1 < n) (hne : ps ≠ []) : unL (slG n dp ps) = [] := by
  unfold unL
  rw [List.filter_eq_nil_iff]
  intro c hc
  rw [List.mem_range] at hc
  have hcn : (c : Int) < (slG n dp ps).n := by show (c : Int) < n; have : c < n.toNat := hc; omega
  have he := endP_is (slG_hi (dp := dp) (ps := ps) (by omega : 1 ≤ n ∧ n ≤ 17)) hcn
  generalize endP (slG n dp ps) c = e at he
  have hen : (e : Int) < n := he.2
  have hhas : hasB (slG n dp ps) e = true := by
    rcases toP_neg.1 he.1 with h | h
    · exact h
    · rcases h with h | ⟨h1, h2⟩
      · rw [leaf_none rfl] at h; cases h
      · obtain ⟨f1, f2, f3⟩ := slF_le e ps 9
        change slH ps e ≤ 9 at f1
        change ∀ q ∈ ps, slH ps e ≤ farI e q.1 at f2
        change slH ps e = 9 ∨ ∃ q ∈ ps, slH ps e = farI e q.1 at f3
        obtain ⟨q0, hq0⟩ := List.exists_mem_of_ne_nil ps hne
        have hb0 := hp q0 hq0
        have hf0 := f2 q0 hq0
        have hlt : farI e q0.1 ≤ 8 := by unfold farI; split <;> omega
        obtain ⟨q, hq, hd⟩ : ∃ q ∈ ps, slH ps e = farI e q.1 := by
          rcases f3 with h | h
          · omega
          · exact h
        have hb := hp q hq
        refine hasB_mem.2 ⟨q, hq, ?_⟩
        by_cases h3 : q.1 = (e : Int)
        · exact h3
        · exfalso
          by_cases h4 : q.1 < (e : Int)
          · have hs := (slF_le (e - 1) ps 9).2.1 q hq
            change slH ps (e - 1) ≤ _ at hs
            have hd2 : farI ((e - 1 : Nat) : Int) q.1 < farI e q.1 := by unfold farI; split <;> split <;> omega
            unfold lowL at h1
            rw [slG_at (by omega), slG_at hen] at h1
            simp at h1; omega
          · have hs := (slF_le (e + 1) ps 9).2.1 q hq
            change slH ps (e + 1) ≤ _ at hs
            have hd2 : farI ((e + 1 : Nat) : Int) q.1 < farI e q.1 := by unfold farI; split <;> split <;> omega
            refine h2 ⟨by show _ < n; omega, ?_⟩
            rw [slG_at (by omega), slG_at hen]; omega
  rw [hhas]; simp
/-! Leaves. -/
theorem leaf_bit {g : Gut} {x : Nat} (h : g.lv = x) (hx : x < 2 ^ 32) {c : Nat} (hc : c < 32) : leafB g c = x.testBit c := by
  unfold leafB
  rw [h, Int.toNat_natCast, show min c IntKind.u32.bits = c from Nat.min_eq_left (by show c ≤ 32; omega)]
  have e : ((x : Int)).fdiv (2 ^ c) = ((x / 2 ^ c : Nat) : Int) := by
    rw [Int.fdiv_eq_ediv_of_nonneg _ (by exact Int.le_of_lt (Int.pow_pos (by omega)))]
    push_cast; rfl
  rw [e]
  have e2 : (BitVec.ofInt IntKind.u32.bits ((x / 2 ^ c : Nat) : Int) &&& BitVec.ofInt IntKind.u32.bits 1).toNat = (x / 2 ^ c) % 2 := by
    rw [BitVec.toNat_and]
    have h1 : (BitVec.ofInt IntKind.u32.bits ((x / 2 ^ c : Nat) : Int)).toNat = x / 2 ^ c := by
      rw [BitVec.ofInt_natCast, BitVec.toNat_ofNat]
      refine Nat.mod_eq_of_lt ?_
      exact Nat.lt_of_le_of_lt (Nat.div_le_self _ _) hx
    have h2 : (BitVec.ofInt IntKind.u32.bits 1).toNat = 1 := by decide
    rw [h1, h2, Nat.and_one_is_mod]
  have e3 : IntKind.u32.wrap ((x / 2 ^ c % 2 : Nat) : Int) = ((x / 2 ^ c % 2 : Nat) : Int) := by
    have := Nat.mod_lt (x / 2 ^ c) (show 2 > 0 by omega)
    generalize x / 2 ^ c % 2 = y at *
    simp [IntKind.wrap, IntKind.bits, IntKind.signed]; omega
  rw [e2, e3, Nat.testBit_eq_decide_div_mod_eq]
  rw [Bool.eq_iff_iff]
  simp only [beq_iff_eq, decide_eq_true_eq]
  omega
theorem leaf_any {g : Gut} (h : okG g = true) (hlv : 0 ≤ g.lv ∧ g.lv ≤ 4294967295) : 0 < (lvs g g.n.toNat).length ↔ g.lv ≠ 0 := by
  have ho := okG_ok h
  have hn := ho.n
  obtain ⟨x, hx⟩ := eq_toNat hlv.1
  have hx32 : x < 2 ^ 32 := by omega
  have hxn : x < 2 ^ g.n.toNat := by
    unfold okG okG0 at h
    simp only [Bool.and_eq_true, beq_iff_eq] at h
    have h0 := h.1.1.1.2
    rw [hx, show min g.n.toNat IntKind.u32.bits = g.n.toNat from Nat.min_eq_left (by show g.n.toNat ≤ 32; omega), Int.fdiv_eq_ediv_of_nonneg _ (by exact Int.le_of_lt (Int.pow_pos (by omega)))] at h0
    have h1 : ((x / 2 ^ g.n.toNat : Nat) : Int) = 0 := by rw [← h0]; push_cast; rfl
    have h2 : x / 2 ^ g.n.toNat = 0 := by omega
    rcases Nat.div_eq_zero_iff.1 h2 with h3 | h3
    · have := Nat.pow_pos (n := g.n.toNat) (show 0 < 2 by omega); omega
    · exact h3
  constructor
  · intro hl e
    obtain ⟨c, hc⟩ := List.exists_mem_of_length_pos hl
    unfold lvs at hc
    rw [List.mem_filter] at hc
    rw [leaf_none e] at hc
    cases hc.2
  · intro hne
    have hx0 : x ≠ 0 := by omega
    obtain ⟨c, hc⟩ := Nat.exists_testBit_of_ne_zero hx0
    have hcn : c < g.n.toNat := by
      apply Classical.byContradiction
      intro hge
      have : 2 ^ g.n.toNat ≤ 2 ^ c := Nat.pow_le_pow_right (by omega) (by omega)
      rw [Nat.testBit_lt_two_pow (by omega)] at hc
      cases hc
    refine List.length_pos_of_mem (a := c) ?_
    unfold lvs
    rw [List.mem_filter, List.mem_range]
    exact ⟨hcn, by rw [leaf_bit hx hx32 (by omega)]; exact hc⟩
/-! Minutes in which something runs over. -/
def fsO (g : Gut) (xs : List Int) : Option Nat := (List.range 200).find? fun m => decide (minO g (wM g (fun _ => 0) xs m) xs > 0)
def setT (g : Gut) (p : Nat) (t : Int) : Gut := { g with ps := g.ps.set p ((px g.ps p).1, t) }
def ltO (g : Gut) (xs : List Int) (p : Nat) : Option Nat := (List.range 1001).find? fun (t : Nat) => (fsO (setT g p t) xs).isNone
theorem lt_dry {g : Gut} {xs : List Int} {p t : Nat} (h : ltO g xs p = some t) : fsO (setT g p t) xs = none := by
  have := List.find?_some h
  simpa using this
end Go.V
/- Gutters: contracts of the functions on where water ends, both sides. -/
set_option linter.unusedVariables false
set_option linter.unusedSimpArgs false
namespace Go.V
/- Words for the walks of this text: their default arguments are tried where they are used. -/
theorem go_E22 {P Q : Prop} (k : Q) (h : P := by first | exact Nat.le_of_ble_eq_true rfl | exact rfl | decide | omega | (simp [splice]; done) | (constructor <;> omega) | (simp [splice]; omega)) : P ∧ Q := ⟨h, k⟩
theorem lk_E22 {α : Type} {o : Option α} {K : α → Prop} {x : α} (k : K x) (h : o = some x := by first | exact watA (by omega) | exact watA' (by omega) | exact watP (by omega) (by omega) | exact hDA (by omega) | exact hDA' (by omega) | exact gutA (by omega) | exact pipeA (by omega) | exact pipeB (by omega) | exact pipeSA (by omega) | exact pipeSB (by omega) | exact upA (by omega) | exact intA (by omega) | exact intA' (by omega)) : optK o K := optK_of h k
theorem sc_E22 {P : Program} {g : FuncId} {args args' : List D} {res : D} (h : Sat P g args res) (e : args' = args := by repeat (first | rfl | exact vfull (by first | (simp [splice]; done) | (simp [splice]; omega)) | exact rfull (by first | (simp [splice]; done) | (simp [splice]; omega)) | exact vzero17 | exact vpipe (by simp; done) (by omega) | exact vsplice (by simp) (by simp) | refine ceq ?_ ?_ | refine Eq.trans (vsplice (by first | (simp; done) | (simp; omega)) (by first | (simp; done) | (simp; omega))) ?_)) : Sat P g args' res := Sat.of_eq h e
theorem leaf_E22 {P : Prop} (h : P := by first | rfl | exact succ8 (by omega) | exact succ64 (by omega) | exact CapOk.fn (by assumption) _ _ | exact vintS (by omega) | exact vintS (by rw [w64 (by omega) (by omega)]; omega) | exact vintS (by rw [w8 (by omega) (by omega)]; omega) | exact vslcS (by omega) | exact vslcS (by simp)) : P := h
theorem hold_E22 {P : Prop} (h : P := by (repeat' (first | exact trivial | apply And.intro)) <;> (first | rfl | exact succ8 (by omega) | exact succ64 (by omega) | exact CapOk.fn (by assumption) _ _ | exact vintS (by omega) | exact vintS (by rw [w64 (by omega) (by omega)]; omega) | exact vintS (by rw [w8 (by omega) (by omega)]; omega) | exact vslcS (by omega) | exact vslcS (by simp))) : P := h
theorem okt_E22 {P : Prop} (h : P := by first | omega | (dsimp only; omega) | ((repeat' apply And.intro) <;> omega) | (dsimp only; (repeat' apply And.intro) <;> omega) | trivial) : P := h
end Go.V
namespace Go.V
def wh (p : Nat → Bool) (k : Nat) : List Nat := (List.range k).filter p
theorem wh_no {p : Nat → Bool} {k : Nat} (h : p k = false) : wh p (k + 1) = wh p k := by unfold wh; rw [List.range_succ, List.filter_append]; simp [h]
theorem wh_yes {p : Nat → Bool} {k : Nat} (h : p k = true) : wh p (k + 1) = wh p k ++ [k] := by unfold wh; rw [List.range_succ, List.filter_append]; simp [h]
theorem wh_len (p : Nat → Bool) (k : Nat) : (wh p k).length ≤ k := by
  have := List.length_filter_le p (List.range k)
  unfold wh; simpa using this
def flL (g : Gut) (k : Nat) : List Int := (List.range k).map (toP g)
theorem flL_snoc (g : Gut) (k : Nat) : flL g (k + 1) = flL g k ++ [toP g k] := by unfold flL; rw [List.range_succ, List.map_append]; rfl
theorem flL_len (g : Gut) (k : Nat) : (flL g k).length = k := by unfold flL; simp
theorem Sat.argOf {P : Program} {g : FuncId} {args args' : List D} {res : D} (h : ∀ (w : World) (vs : List Value), RepL w w.heap.size noLoc args' vs → RepL w w.heap.size noLoc args vs) (s : Sat P g args res) : Sat P g args' res :=
  ⟨s.1, fun w vs hgl hr => s.2 w vs hgl (h w vs hr)⟩
/-- A gutter whose pipes are nil. -/
def gutN (g : Gut) : D := .agg (.v (.int .i8 g.n) :: .v (.int .i16 g.dp) :: (hD g.h ++ [.v (.int .u32 g.lv), .v (.slice none 0 0)]))
theorem repL_last {w : World} {B : Nat} {loc : Loc} {d d' : D} (h : ∀ y, Rep w B loc d y → Rep w B loc d' y) : ∀ (ds : List D) (vs : List Value), RepL w B loc (ds ++ [d]) vs → RepL w B loc (ds ++ [d']) vs
  | [], vs, hr => by
    simp only [List.nil_append, RepL] at hr ⊢
    obtain ⟨y, ys, rfl, h1, h2⟩ := hr
    exact ⟨y, ys, rfl, h y h1, h2⟩
  | x :: ds, vs, hr => by
    simp only [List.cons_append, RepL] at hr ⊢
    obtain ⟨y, ys, rfl, h1, h2⟩ := hr
    exact ⟨y, ys, rfl, h1, repL_last h ds ys h2⟩
theorem gutN_rep {w : World} {B : Nat} {loc : Loc} {g : Gut} {m : Bool} {y : Value} (h : Rep w B loc (gutN g) y) : Rep w B loc (gutD m { g with ps := [] }) y := by
  unfold gutN at h
  unfold gutD
  simp only [Rep] at h ⊢
  obtain ⟨vs, rfl, h1, h2⟩ := h
  refine ⟨vs, rfl, ?_, h2⟩
  have row : ∀ y, Rep w B loc (.v (.slice none 0 0)) y → Rep w B loc (pipesD m []) y := fun y hy => by
    simp only [Rep] at hy
    obtain ⟨rfl, _⟩ := hy
    unfold pipesD
    simp only [Rep]
    exact ⟨none, 0, [], rfl, Nat.le_refl _, by simp [pipesC, Flat], by simp, .inl (by simp), fun _ => .inl ⟨rfl, rfl⟩⟩
  have key := repL_last row (D.v (.int .i8 g.n) :: D.v (.int .i16 g.dp) :: (hD g.h ++ [D.v (.int .u32 g.lv)])) vs
  have e : ∀ x : D, D.v (.int .i8 g.n) :: D.v (.int .i16 g.dp) :: (hD g.h ++ [D.v (.int .u32 g.lv), x]) = (D.v (.int .i8 g.n) :: D.v (.int .i16 g.dp) :: (hD g.h ++ [D.v (.int .u32 g.lv)])) ++ [x] := fun _ => rfl
  unfold gutL
  rw [e] at h1 ⊢
  exact key h1
end Go.V
namespace Go.Proofs.Ytcnenmcagkbppaa
open Go.V
theorem whichP_sat (g : Gut) (ho : g.Ok) {fn : Nat} {caps : List D} (p : Nat → Bool) (hc : CapOk caps) (hp : ∀ c : Nat, (c : Int) < g.n → Sat Try.prog fn (.v (.int .i64 c) :: caps) (.v (.bool (p c)))) :
    Sat Try.prog 41 [gutD false g, .fn (.func fn) [] caps] (intsD true (toI (wh p g.n.toNat))) := by
  have hn := ho.n
  refine satN_of_wp hMix tOk Try.func41 rfl rfl Try.ntmps41 rfl rfl Try.results41 (by kernel_rfl) ?_
  conv => whnf
  repeat (first | (refine go_E22 ?_; conv => whnf) | (refine lk_E22 ?_; conv => whnf))
  first | refine ⟨_, _, rfl, sc_E22 (gcells_sat g ho), ?_⟩ | refine .inl ⟨_, _, rfl, sc_E22 (gcells_sat g ho), ?_⟩
  conv => whnf
  repeat (first | (refine go_E22 ?_; conv => whnf) | (refine lk_E22 ?_; conv => whnf))
  refine loop_rule (α := Nat) (fun k => [(1, .fn (.func fn) [] caps), (5, .slc true 1 (21, 0, 0) 0 (wh p k).length), (9, .slc true 1 (9, 0, 0) 0 g.n.toNat), (10, .v (.int .i64 g.n.toNat)), (11, .v (.int .i64 k))]) (fun k => [((21, 0, 0), .v (.agg ⟨intsC (toI (wh p k))⟩)), ((9, 0, 0), .v (.agg ⟨intsC (upL g.n.toNat)⟩))]) (fun k => k ≤ g.n.toNat) (fun k => g.n.toNat - k) (0) ?_ (sim_of (rn := [((21, 0, 0), nilId), ((9, 0, 0), (9, 0, 0))]) rfl ?_ ?_) ?_
  · exact okt_E22
  · ((repeat' (first | exact trivial | apply And.intro)) <;> (first | rfl | (first | exact vslcS (upL_len _) | exact vslcS (upL_len _).symm | exact vintS (congrArg Int.ofNat (upL_len _)) | exact vintS (congrArg Int.ofNat (upL_len _).symm)) | exact leaf_E22))
  · ((repeat' (first | exact trivial | apply And.intro)) <;> ((first | refine ⟨_, _, rfl, rfl, ?_⟩ ); first | rfl | ((exact cset (show [] = intsC [] from intsC_nil.symm)))))
  intro k hk
  have hll := wh_len p k
  conv => whnf
  repeat (first | (refine go_E22 ?_; conv => whnf) | (refine lk_E22 ?_; conv => whnf))
  cases h : decide ((k : Int) < (g.n.toNat : Int))
  · have hkn : k = g.n.toNat := by simp at h; omega
    subst hkn
    have e : D.row true 1 (.v (.agg ⟨intsC (toI (wh p g.n.toNat))⟩)) (wh p g.n.toNat).length = intsD true (toI (wh p g.n.toNat)) := by unfold intsD; rw [toI_len]
    rw [← e]
    conv => whnf
    repeat (first | (refine go_E22 ?_; conv => whnf) | (refine lk_E22 ?_; conv => whnf))
    first | refine ⟨rfl, _, rfl, [_], rfl, ?_, rfl⟩ | refine ⟨_, rfl, [_], rfl, ?_, rfl⟩
    ((repeat' (first | exact trivial | apply And.intro)) <;> first | exact .inl rfl | exact .inr ⟨rfl, rfl⟩)
  have hkn : k < g.n.toNat := by simp at h; omega
  conv => whnf
  repeat (first | (refine go_E22 ?_; conv => whnf) | (refine lk_E22 ?_; conv => whnf))
  first | refine ⟨_, _, CapOk.one (by assumption) rfl, sc_E22 (hp k (by omega)), ?_⟩ | refine .inl ⟨_, _, CapOk.one (by assumption) rfl, sc_E22 (hp k (by omega)), ?_⟩
  conv => whnf
  repeat (first | (refine go_E22 ?_; conv => whnf) | (refine lk_E22 ?_; conv => whnf))
  cases h2 : p k
  · have e1 := wh_no h2
    conv => whnf
    repeat (first | (refine go_E22 ?_; conv => whnf) | (refine lk_E22 ?_; conv => whnf))
    refine ⟨k + 1, ?_, ?_, sim_of (rn := [((21, 0, 0), (21, 0, 0)), ((9, 0, 0), (9, 0, 0))]) rfl ?_ ?_⟩
    · (dsimp only; omega)
    · exact okt_E22
    · ((repeat' (first | exact trivial | apply And.intro)) <;> (first | rfl | (exact vslcS (by rw [e1])) | exact leaf_E22))
    · ((repeat' (first | exact trivial | apply And.intro)) <;> ((first | refine ⟨_, _, rfl, rfl, ?_⟩ ); first | rfl | ((exact cset (by rw [e1])))))
  have e1 := wh_yes h2
  have e2 : intsC (toI (wh p k)) ++ [.int .i64 (k : Int)] = intsC (toI (wh p (k + 1))) := by rw [e1, toI_snoc, intsC_append, intsC_one]
  have e3 : (wh p (k + 1)).length = (wh p k).length + 1 := by rw [e1]; simp
  conv => whnf
  repeat (first | (refine go_E22 ?_; conv => whnf) | (refine lk_E22 ?_; conv => whnf))
  refine ⟨k + 1, ?_, ?_, sim_of (rn := [((21, 0, 0), (21, 1, 0)), ((9, 0, 0), (9, 0, 0))]) rfl ?_ ?_⟩
  · (dsimp only; omega)
  · exact okt_E22
  · ((repeat' (first | exact trivial | apply And.intro)) <;> (first | rfl | (exact vslcS e3) | exact leaf_E22))
  · ((repeat' (first | exact trivial | apply And.intro)) <;> ((first | refine ⟨_, _, rfl, rfl, ?_⟩ ); first | rfl | (exact cset e2)))
theorem l06End_sat (g : Gut) (hg : g.In) (ho : g.Ok) (c : Nat) (hc : (c : Int) < g.n) : Sat Try.prog 47 [.ref false (gutD false g) 0, .v (.int .i64 c)] (.v (.int .i64 (endP g c))) := by
  have hn := ho.n
  refine sat_of_wp hMix tOk Try.func47 rfl rfl Try.ntmps47 rfl rfl Try.results47 (by kernel_rfl) ?_
  conv => whnf
  repeat (first | (refine go_E22 ?_; conv => whnf) | (refine lk_E22 ?_; conv => whnf))
  first | refine ⟨_, _, rfl, sc_E22 (l06To_sat g hg ho c hc), ?_⟩ | refine .inl ⟨_, _, rfl, sc_E22 (l06To_sat g hg ho c hc), ?_⟩
  conv => whnf
  repeat (first | (refine go_E22 ?_; conv => whnf) | (refine lk_E22 ?_; conv => whnf))
  refine loop_rule (α := Nat) (fun d => [(0, .ref false (gutD false g) 0), (1, .v (.int .i64 d)), (5, .v (.int .i64 (toP g d)))]) (fun d => []) (fun d => (d : Int) < g.n ∧ endP g d = endP g c) (fun d => (g.h d).toNat) (c) ?_ (sim_of (rn := []) rfl ?_ ?_) ?_
  · exact ⟨hc, rfl⟩
  · exact hold_E22
  · ((repeat' (first | exact trivial | apply And.intro)) <;> ((first | refine ⟨_, _, rfl, rfl, ?_⟩ ); rfl))
  rintro d ⟨hd, he⟩
  conv => whnf
  repeat (first | (refine go_E22 ?_; conv => whnf) | (refine lk_E22 ?_; conv => whnf))
  cases h1 : decide (toP g d ≥ 0)
  · have h2 : toP g d < 0 := by simp at h1; omega
    rw [← he, endP_stop h2]
    conv => whnf
    repeat (first | (refine go_E22 ?_; conv => whnf) | (refine lk_E22 ?_; conv => whnf))
    first | refine ⟨rfl, _, rfl, ?_⟩ | refine ⟨_, rfl, ?_⟩
    rfl
  have h2 : 0 ≤ toP g d := by simpa using h1
  have hl := toP_low hd h2
  have hst := endP_step ho.hi hd h2
  obtain ⟨e, hee⟩ := eq_toNat h2
  rw [hee, Int.toNat_natCast] at hl hst
  have hhe := ho.h e (by omega)
  rw [hee]
  conv => whnf
  repeat (first | (refine go_E22 ?_; conv => whnf) | (refine lk_E22 ?_; conv => whnf))
  first | refine ⟨_, _, rfl, sc_E22 (l06To_sat g hg ho e hl.2), ?_⟩ | refine .inl ⟨_, _, rfl, sc_E22 (l06To_sat g hg ho e hl.2), ?_⟩
  conv => whnf
  repeat (first | (refine go_E22 ?_; conv => whnf) | (refine lk_E22 ?_; conv => whnf))
  refine ⟨e, ?_, ?_, sim_of (rn := []) rfl ?_ ?_⟩
  · (dsimp only; omega)
  · exact ⟨hl.2, by rw [← hst]; exact he⟩
  · exact hold_E22
  · ((repeat' (first | exact trivial | apply And.intro)) <;> ((first | refine ⟨_, _, rfl, rfl, ?_⟩ ); rfl))
theorem end_sat (g : Gut) (hg : g.In) (ho : g.Ok) (c : Nat) (hc : (c : Int) < g.n) : Sat Try.prog 45 [gutD false g, .v (.int .i64 c)] (.v (.int .i64 (endP g c))) := by
  have hn := ho.n
  refine sat_of_wp hMix tOk Try.func45 rfl rfl Try.ntmps45 rfl rfl Try.results45 (by kernel_rfl) ?_
  conv => whnf
  repeat (first | (refine go_E22 ?_; conv => whnf) | (refine lk_E22 ?_; conv => whnf))
  first | refine ⟨_, _, rfl, sc_E22 (flowsTo_sat g hg ho c hc), ?_⟩ | refine .inl ⟨_, _, rfl, sc_E22 (flowsTo_sat g hg ho c hc), ?_⟩
  conv => whnf
  repeat (first | (refine go_E22 ?_; conv => whnf) | (refine lk_E22 ?_; conv => whnf))
  refine loop_rule (α := Nat) (fun d => [(1, .v (.int .i64 d)), (2, .ptr (2, 0, 0) 0), (5, .v (.int .i64 (toP g d)))]) (fun d => [((2, 0, 0), gutD false g)]) (fun d => (d : Int) < g.n ∧ endP g d = endP g c) (fun d => (g.h d).toNat) (c) ?_ (sim_of (rn := [((2, 0, 0), (2, 0, 0))]) rfl ?_ ?_) ?_
  · exact ⟨hc, rfl⟩
  · exact hold_E22
  · ((repeat' (first | exact trivial | apply And.intro)) <;> ((first | refine ⟨_, _, rfl, rfl, ?_⟩ ); rfl))
  rintro d ⟨hd, he⟩
  have hr := toP_range hd
  conv => whnf
  repeat (first | (refine go_E22 ?_; conv => whnf) | (refine lk_E22 ?_; conv => whnf))
  cases h1 : (toP g d != -1)
  · have h2 : toP g d < 0 := by simp at h1; omega
    rw [← he, endP_stop h2]
    conv => whnf
    repeat (first | (refine go_E22 ?_; conv => whnf) | (refine lk_E22 ?_; conv => whnf))
    first | refine ⟨rfl, _, rfl, ?_⟩ | refine ⟨_, rfl, ?_⟩
    rfl
  have h2 : 0 ≤ toP g d := by simp at h1; omega
  have hl := toP_low hd h2
  have hst := endP_step ho.hi hd h2
  obtain ⟨e, hee⟩ := eq_toNat h2
  rw [hee, Int.toNat_natCast] at hl hst
  have hhe := ho.h e (by omega)
  rw [hee]
  conv => whnf
  repeat (first | (refine go_E22 ?_; conv => whnf) | (refine lk_E22 ?_; conv => whnf))
  first | refine ⟨_, _, rfl, sc_E22 (flowsTo_sat g hg ho e hl.2), ?_⟩ | refine .inl ⟨_, _, rfl, sc_E22 (flowsTo_sat g hg ho e hl.2), ?_⟩
  conv => whnf
  repeat (first | (refine go_E22 ?_; conv => whnf) | (refine lk_E22 ?_; conv => whnf))
  refine ⟨e, ?_, ?_, sim_of (rn := [((2, 0, 0), (2, 0, 0))]) rfl ?_ ?_⟩
  · (dsimp only; omega)
  · exact ⟨hl.2, by rw [← hst]; exact he⟩
  · exact hold_E22
  · ((repeat' (first | exact trivial | apply And.intro)) <;> ((first | refine ⟨_, _, rfl, rfl, ?_⟩ ); rfl))
theorem l06Cell_sat (g : Gut) (ho : g.Ok) (c : Int) : Sat Try.prog 52 [.ref false (gutD false g) 0, .v (.int .i64 c)] (.v (.bool (decide (c ≥ 0) && decide (c ≤ g.n - 1)))) := by
  have hn := ho.n
  refine sat_of_wp hMix tOk Try.func52 rfl rfl Try.ntmps52 rfl rfl Try.results52 (by kernel_rfl) ?_
  conv => whnf
  repeat (first | (refine go_E22 ?_; conv => whnf) | (refine lk_E22 ?_; conv => whnf))
  rw [show IntKind.i64.wrap (IntKind.i64.wrap g.n - 1) = g.n - 1 by rw [w64 (n := g.n) (by omega) (by omega), w64 (by omega) (by omega)]]
  first | refine ⟨_, _, rfl, sc_E22 (l00In_sat _ _ _), ?_⟩ | refine .inl ⟨_, _, rfl, sc_E22 (l00In_sat _ _ _), ?_⟩
  conv => whnf
  repeat (first | (refine go_E22 ?_; conv => whnf) | (refine lk_E22 ?_; conv => whnf))
  first | refine ⟨rfl, _, rfl, ?_⟩ | refine ⟨_, rfl, ?_⟩
  rfl
theorem isIn_sat (g : Gut) (ho : g.Ok) (c : Int) : Sat Try.prog 50 [gutD false g, .v (.int .i64 c)] (.v (.bool (decide (c ≥ 0) && decide (c ≤ g.n - 1)))) := by
  have hn := ho.n
  refine sat_of_wp hMix tOk Try.func50 rfl rfl Try.ntmps50 rfl rfl Try.results50 (by kernel_rfl) ?_
  conv => whnf
  repeat (first | (refine go_E22 ?_; conv => whnf) | (refine lk_E22 ?_; conv => whnf))
  rw [show IntKind.i64.wrap (IntKind.i64.wrap g.n - 1) = g.n - 1 by rw [w64 (n := g.n) (by omega) (by omega), w64 (by omega) (by omega)]]
  first | refine ⟨_, _, rfl, sc_E22 (within64_sat _ _ _), ?_⟩ | refine .inl ⟨_, _, rfl, sc_E22 (within64_sat _ _ _), ?_⟩
  conv => whnf
  repeat (first | (refine go_E22 ?_; conv => whnf) | (refine lk_E22 ?_; conv => whnf))
  first | refine ⟨rfl, _, rfl, ?_⟩ | refine ⟨_, rfl, ?_⟩
  skip
  first | rfl | (show D.v (.bool _) = D.v (.bool _); congr 2)
theorem ask0 {g : Gut} (hk : okG g = true) : askG g true = 0 := by unfold askG; rw [if_pos hk]; rfl
theorem inB {g : Gut} {c : Nat} (hc : (c : Int) < g.n) : (decide ((c : Int) ≥ 0) && decide ((c : Int) ≤ g.n - 1)) = true := by simp; omega
theorem specEndOf_sat (g : Gut) (hg : g.In) (hk : okG g = true) (c : Nat) (hc : (c : Int) < g.n) : Sat Try.prog 15 [gutD false g, .v (.int .i64 c)] (.tup [.v (.int .i64 (endP g c)), .v (.int .i64 0)]) := by
  have ho := okG_ok hk
  have sA := l06Asked_sat g hg true
  rw [ask0 hk] at sA
  have sC := l06Cell_sat g ho c
  rw [inB hc] at sC
  refine sat_of_wp hMix tOk Try.func15 rfl rfl Try.ntmps15 rfl rfl Try.results15 (by kernel_rfl) ?_
  conv => whnf
  repeat (first | (refine go_E22 ?_; conv => whnf) | (refine lk_E22 ?_; conv => whnf))
  first | refine ⟨_, _, rfl, sc_E22 (sC), ?_⟩ | refine .inl ⟨_, _, rfl, sc_E22 (sC), ?_⟩
  conv => whnf
  repeat (first | (refine go_E22 ?_; conv => whnf) | (refine lk_E22 ?_; conv => whnf))
  first | refine ⟨_, _, rfl, sc_E22 (sA), ?_⟩ | refine .inl ⟨_, _, rfl, sc_E22 (sA), ?_⟩
  conv => whnf
  repeat (first | (refine go_E22 ?_; conv => whnf) | (refine lk_E22 ?_; conv => whnf))
  first | refine ⟨_, _, rfl, sc_E22 (l06End_sat g hg ho c hc), ?_⟩ | refine .inl ⟨_, _, rfl, sc_E22 (l06End_sat g hg ho c hc), ?_⟩
  conv => whnf
  repeat (first | (refine go_E22 ?_; conv => whnf) | (refine lk_E22 ?_; conv => whnf))
  first | refine ⟨rfl, _, rfl, ?_⟩ | refine ⟨_, rfl, ?_⟩
  rfl
theorem endOf_sat (g : Gut) (hg : g.In) (hk : okG g = true) (c : Nat) (hc : (c : Int) < g.n) : Sat Try.prog 14 [gutD false g, .v (.int .i64 c)] (.tup [.v (.int .i64 (endP g c)), .v (.int .i64 0)]) := by
  have ho := okG_ok hk
  have sA := gutterCode_sat g hg true
  rw [ask0 hk] at sA
  have sC := isIn_sat g ho c
  rw [inB hc] at sC
  refine sat_of_wp hMix tOk Try.func14 rfl rfl Try.ntmps14 rfl rfl Try.results14 (by kernel_rfl) ?_
  conv => whnf
  repeat (first | (refine go_E22 ?_; conv => whnf) | (refine lk_E22 ?_; conv => whnf))
  first | refine ⟨_, _, rfl, sc_E22 (sC), ?_⟩ | refine .inl ⟨_, _, rfl, sc_E22 (sC), ?_⟩
  conv => whnf
  repeat (first | (refine go_E22 ?_; conv => whnf) | (refine lk_E22 ?_; conv => whnf))
  first | refine ⟨_, _, rfl, sc_E22 (sA), ?_⟩ | refine .inl ⟨_, _, rfl, sc_E22 (sA), ?_⟩
  conv => whnf
  repeat (first | (refine go_E22 ?_; conv => whnf) | (refine lk_E22 ?_; conv => whnf))
  first | refine ⟨_, _, rfl, sc_E22 (end_sat g hg ho c hc), ?_⟩ | refine .inl ⟨_, _, rfl, sc_E22 (end_sat g hg ho c hc), ?_⟩
  conv => whnf
  repeat (first | (refine go_E22 ?_; conv => whnf) | (refine lk_E22 ?_; conv => whnf))
  first | refine ⟨rfl, _, rfl, ?_⟩ | refine ⟨_, rfl, ?_⟩
  rfl
theorem specUndrained_sat (g : Gut) (hg : g.In) (hk : okG g = true) : Sat Try.prog 12 [gutD false g] (.tup [intsD true (toI (unL g)), .v (.int .i64 0)]) := by
  have ho := okG_ok hk
  have hn := ho.n
  have en : IntKind.i64.wrap g.n = g.n := w64 (by omega) (by omega)
  obtain ⟨p, hp⟩ : ∃ p : Nat → Bool, p = fun c => !hasB g (endP g c) := ⟨_, rfl⟩
  rw [show unL g = wh p g.n.toNat by rw [hp]; rfl]
  have sO := l06Ok_sat g hg
  rw [hk] at sO
  refine sat_of_wp hMix tOk Try.func12 rfl rfl Try.ntmps12 rfl rfl Try.results12 (by kernel_rfl) ?_
  conv => whnf
  repeat (first | (refine go_E22 ?_; conv => whnf) | (refine lk_E22 ?_; conv => whnf))
  first | refine ⟨_, _, rfl, sc_E22 (sO), ?_⟩ | refine .inl ⟨_, _, rfl, sc_E22 (sO), ?_⟩
  conv => whnf
  repeat (first | (refine go_E22 ?_; conv => whnf) | (refine lk_E22 ?_; conv => whnf))
  refine loop_rule (α := Nat) (fun k => [(1, .ptr (1, 0, 0) 0), (4, .slc true 1 (24, 0, 0) 0 (wh p k).length), (5, .v (.int .i64 k))]) (fun k => [((1, 0, 0), gutD false g), ((24, 0, 0), .v (.agg ⟨intsC (toI (wh p k))⟩))]) (fun k => k ≤ g.n.toNat) (fun k => g.n.toNat - k) (0) ?_ (sim_of (rn := [((1, 0, 0), (1, 0, 0)), ((24, 0, 0), (6, 0, 0))]) rfl ?_ ?_) ?_
  · exact okt_E22
  · exact hold_E22
  · ((repeat' (first | exact trivial | apply And.intro)) <;> ((first | refine ⟨_, _, rfl, rfl, ?_⟩ ); first | rfl | (exact cset (show [] = intsC [] from intsC_nil.symm))))
  intro k hkk
  have hll := wh_len p k
  conv => whnf
  repeat (first | (refine go_E22 ?_; conv => whnf) | (refine lk_E22 ?_; conv => whnf))
  rw [en]
  cases h : decide ((k : Int) < g.n)
  · have hkn : k = g.n.toNat := by simp at h; omega
    subst hkn
    have e : D.row true 1 (.v (.agg ⟨intsC (toI (wh p g.n.toNat))⟩)) (wh p g.n.toNat).length = intsD true (toI (wh p g.n.toNat)) := by unfold intsD; rw [toI_len]
    rw [← e]
    conv => whnf
    repeat (first | (refine go_E22 ?_; conv => whnf) | (refine lk_E22 ?_; conv => whnf))
    first | refine ⟨rfl, _, rfl, ?_⟩ | refine ⟨_, rfl, ?_⟩
    rfl
  have hkn : (k : Int) < g.n := by simpa using h
  have he := endP_is ho.hi hkn
  conv => whnf
  repeat (first | (refine go_E22 ?_; conv => whnf) | (refine lk_E22 ?_; conv => whnf))
  first | refine ⟨_, _, rfl, sc_E22 (l06End_sat g hg ho k hkn), ?_⟩ | refine .inl ⟨_, _, rfl, sc_E22 (l06End_sat g hg ho k hkn), ?_⟩
  conv => whnf
  repeat (first | (refine go_E22 ?_; conv => whnf) | (refine lk_E22 ?_; conv => whnf))
  first | refine ⟨_, _, rfl, sc_E22 (l06Pipe_sat g hg ho.len (endP g k) (by omega)), ?_⟩ | refine .inl ⟨_, _, rfl, sc_E22 (l06Pipe_sat g hg ho.len (endP g k) (by omega)), ?_⟩
  conv => whnf
  repeat (first | (refine go_E22 ?_; conv => whnf) | (refine lk_E22 ?_; conv => whnf))
  rw [show (!hasB g (endP g k)) = p k by rw [hp]]
  cases h2 : p k
  · have e1 := wh_no h2
    conv => whnf
    repeat (first | (refine go_E22 ?_; conv => whnf) | (refine lk_E22 ?_; conv => whnf))
    refine ⟨k + 1, ?_, ?_, sim_of (rn := [((1, 0, 0), (1, 0, 0)), ((24, 0, 0), (24, 0, 0))]) rfl ?_ ?_⟩
    · (dsimp only; omega)
    · exact okt_E22
    · ((repeat' (first | exact trivial | apply And.intro)) <;> (first | rfl | (exact vslcS (by rw [e1])) | exact leaf_E22))
    · ((repeat' (first | exact trivial | apply And.intro)) <;> ((first | refine ⟨_, _, rfl, rfl, ?_⟩ ); first | rfl | ((exact cset (by rw [e1])))))
  have e1 := wh_yes h2
  have e2 : intsC (toI (wh p k)) ++ [.int .i64 (k : Int)] = intsC (toI (wh p (k + 1))) := by rw [e1, toI_snoc, intsC_append, intsC_one]
  have e3 : (wh p (k + 1)).length = (wh p k).length + 1 := by rw [e1]; simp
  conv => whnf
  repeat (first | (refine go_E22 ?_; conv => whnf) | (refine lk_E22 ?_; conv => whnf))
  refine ⟨k + 1, ?_, ?_, sim_of (rn := [((1, 0, 0), (1, 0, 0)), ((24, 0, 0), (24, 1, 0))]) rfl ?_ ?_⟩
  · (dsimp only; omega)
  · exact okt_E22
  · ((repeat' (first | exact trivial | apply And.intro)) <;> (first | rfl | (exact vslcS e3) | exact leaf_E22))
  · ((repeat' (first | exact trivial | apply And.intro)) <;> ((first | refine ⟨_, _, rfl, rfl, ?_⟩ ); first | rfl | (exact cset e2)))
theorem specBasinOf_sat (g : Gut) (hg : g.In) (hk : okG g = true) (c : Nat) (hc : (c : Int) < g.n) : Sat Try.prog 17 [gutD false g, .v (.int .i64 c)] (.tup [intsD true (toI (bsL g c)), .v (.int .i64 0)]) := by
  have ho := okG_ok hk
  have hn := ho.n
  have en : IntKind.i64.wrap g.n = g.n := w64 (by omega) (by omega)
  obtain ⟨p, hp⟩ : ∃ p : Nat → Bool, p = fun k => decide (endP g k = c) := ⟨_, rfl⟩
  rw [show bsL g c = wh p g.n.toNat by rw [hp]; rfl]
  have sA := l06Asked_sat g hg true
  rw [ask0 hk] at sA
  have sC := l06Cell_sat g ho c
  rw [inB hc] at sC
  refine sat_of_wp hMix tOk Try.func17 rfl rfl Try.ntmps17 rfl rfl Try.results17 (by kernel_rfl) ?_
  conv => whnf
  repeat (first | (refine go_E22 ?_; conv => whnf) | (refine lk_E22 ?_; conv => whnf))
  first | refine ⟨_, _, rfl, sc_E22 (sC), ?_⟩ | refine .inl ⟨_, _, rfl, sc_E22 (sC), ?_⟩
  conv => whnf
  repeat (first | (refine go_E22 ?_; conv => whnf) | (refine lk_E22 ?_; conv => whnf))
  first | refine ⟨_, _, rfl, sc_E22 (sA), ?_⟩ | refine .inl ⟨_, _, rfl, sc_E22 (sA), ?_⟩
  conv => whnf
  repeat (first | (refine go_E22 ?_; conv => whnf) | (refine lk_E22 ?_; conv => whnf))
  refine loop_rule (α := Nat) (fun k => [(1, .v (.int .i64 c)), (2, .ptr (2, 0, 0) 0), (6, .slc true 1 (31, 0, 0) 0 (wh p k).length), (8, .v (.int .i64 k))]) (fun k => [((2, 0, 0), gutD false g), ((31, 0, 0), .v (.agg ⟨intsC (toI (wh p k))⟩))]) (fun k => k ≤ g.n.toNat) (fun k => g.n.toNat - k) (0) ?_ (sim_of (rn := [((2, 0, 0), (2, 0, 0)), ((31, 0, 0), (9, 0, 0))]) rfl ?_ ?_) ?_
  · exact okt_E22
  · exact hold_E22
  · ((repeat' (first | exact trivial | apply And.intro)) <;> ((first | refine ⟨_, _, rfl, rfl, ?_⟩ ); first | rfl | (exact cset (show [] = intsC [] from intsC_nil.symm))))
  intro k hkk
  have hll := wh_len p k
  conv => whnf
  repeat (first | (refine go_E22 ?_; conv => whnf) | (refine lk_E22 ?_; conv => whnf))
  rw [en]
  cases h : decide ((k : Int) < g.n)
  · have hkn : k = g.n.toNat := by simp at h; omega
    subst hkn
    have e : D.row true 1 (.v (.agg ⟨intsC (toI (wh p g.n.toNat))⟩)) (wh p g.n.toNat).length = intsD true (toI (wh p g.n.toNat)) := by unfold intsD; rw [toI_len]
    rw [← e]
    conv => whnf
    repeat (first | (refine go_E22 ?_; conv => whnf) | (refine lk_E22 ?_; conv => whnf))
    first | refine ⟨rfl, _, rfl, ?_⟩ | refine ⟨_, rfl, ?_⟩
    rfl
  have hkn : (k : Int) < g.n := by simpa using h
  conv => whnf
  repeat (first | (refine go_E22 ?_; conv => whnf) | (refine lk_E22 ?_; conv => whnf))
  first | refine ⟨_, _, rfl, sc_E22 (l06End_sat g hg ho k hkn), ?_⟩ | refine .inl ⟨_, _, rfl, sc_E22 (l06End_sat g hg ho k hkn), ?_⟩
  conv => whnf
  repeat (first | (refine go_E22 ?_; conv => whnf) | (refine lk_E22 ?_; conv => whnf))
  rw [show (((endP g k : Nat) : Int) == (c : Int)) = p k by rw [hp, Bool.eq_iff_iff]; simp only [beq_iff_eq, decide_eq_true_eq]; omega]
  cases h2 : p k
  · have e1 := wh_no h2
    conv => whnf
    repeat (first | (refine go_E22 ?_; conv => whnf) | (refine lk_E22 ?_; conv => whnf))
    refine ⟨k + 1, ?_, ?_, sim_of (rn := [((2, 0, 0), (2, 0, 0)), ((31, 0, 0), (31, 0, 0))]) rfl ?_ ?_⟩
    · (dsimp only; omega)
    · exact okt_E22
    · ((repeat' (first | exact trivial | apply And.intro)) <;> (first | rfl | (exact vslcS (by rw [e1])) | exact leaf_E22))
    · ((repeat' (first | exact trivial | apply And.intro)) <;> ((first | refine ⟨_, _, rfl, rfl, ?_⟩ ); first | rfl | ((exact cset (by rw [e1])))))
  have e1 := wh_yes h2
  have e2 : intsC (toI (wh p k)) ++ [.int .i64 (k : Int)] = intsC (toI (wh p (k + 1))) := by rw [e1, toI_snoc, intsC_append, intsC_one]
  have e3 : (wh p (k + 1)).length = (wh p k).length + 1 := by rw [e1]; simp
  conv => whnf
  repeat (first | (refine go_E22 ?_; conv => whnf) | (refine lk_E22 ?_; conv => whnf))
  refine ⟨k + 1, ?_, ?_, sim_of (rn := [((2, 0, 0), (2, 0, 0)), ((31, 0, 0), (31, 1, 0))]) rfl ?_ ?_⟩
  · (dsimp only; omega)
  · exact okt_E22
  · ((repeat' (first | exact trivial | apply And.intro)) <;> (first | rfl | (exact vslcS e3) | exact leaf_E22))
  · ((repeat' (first | exact trivial | apply And.intro)) <;> ((first | refine ⟨_, _, rfl, rfl, ?_⟩ ); first | rfl | (exact cset e2)))
theorem undrained1_sat (g : Gut) (hg : g.In) (ho : g.Ok) (c : Nat) (hc : (c : Int) < g.n) : Sat Try.prog 43 [.v (.int .i64 c), .ref false (gutD false g) 0] (.v (.bool (!hasB g (endP g c)))) := by
  have hn := ho.n
  have he := endP_is ho.hi hc
  refine sat_of_wp hMix tOk Try.func43 rfl rfl Try.ntmps43 rfl rfl Try.results43 (by kernel_rfl) ?_
  conv => whnf
  repeat (first | (refine go_E22 ?_; conv => whnf) | (refine lk_E22 ?_; conv => whnf))
  first | refine ⟨_, _, rfl, sc_E22 (end_sat g hg ho c hc), ?_⟩ | refine .inl ⟨_, _, rfl, sc_E22 (end_sat g hg ho c hc), ?_⟩
  conv => whnf
  repeat (first | (refine go_E22 ?_; conv => whnf) | (refine lk_E22 ?_; conv => whnf))
  first | refine ⟨_, _, rfl, sc_E22 (hasPipe_sat g hg ho.len (endP g c) (by omega)), ?_⟩ | refine .inl ⟨_, _, rfl, sc_E22 (hasPipe_sat g hg ho.len (endP g c) (by omega)), ?_⟩
  conv => whnf
  repeat (first | (refine go_E22 ?_; conv => whnf) | (refine lk_E22 ?_; conv => whnf))
  first | refine ⟨rfl, _, rfl, ?_⟩ | refine ⟨_, rfl, ?_⟩
  rfl
theorem basinOf1_sat (g : Gut) (hg : g.In) (ho : g.Ok) (b : Nat) (c : Nat) (hc : (c : Int) < g.n) : Sat Try.prog 53 [.v (.int .i64 c), .ref false (gutD false g) 0, .ref false (.v (.agg ⟨[.int .i64 b]⟩)) 0] (.v (.bool (decide (endP g c = b)))) := by
  have hn := ho.n
  have he := endP_is ho.hi hc
  refine sat_of_wp hMix tOk Try.func53 rfl rfl Try.ntmps53 rfl rfl Try.results53 (by kernel_rfl) ?_
  conv => whnf
  repeat (first | (refine go_E22 ?_; conv => whnf) | (refine lk_E22 ?_; conv => whnf))
  first | refine ⟨_, _, rfl, sc_E22 (end_sat g hg ho c hc), ?_⟩ | refine .inl ⟨_, _, rfl, sc_E22 (end_sat g hg ho c hc), ?_⟩
  conv => whnf
  repeat (first | (refine go_E22 ?_; conv => whnf) | (refine lk_E22 ?_; conv => whnf))
  try rw [show IntKind.i64.wrap (b : Int) = b from w64 (by omega) (by omega)]
  rw [show (((endP g c : Nat) : Int) == (b : Int)) = decide (endP g c = b) by rw [Bool.eq_iff_iff]; simp only [beq_iff_eq, decide_eq_true_eq]; omega]
  conv => whnf
  repeat (first | (refine go_E22 ?_; conv => whnf) | (refine lk_E22 ?_; conv => whnf))
  first | refine ⟨rfl, _, rfl, ?_⟩ | refine ⟨_, rfl, ?_⟩
  rfl
theorem undrained_sat (g : Gut) (hg : g.In) (hk : okG g = true) : Sat Try.prog 11 [gutD false g] (.tup [intsD true (toI (unL g)), .v (.int .i64 0)]) := by
  have ho := okG_ok hk
  have sO := validGutter_sat g hg
  rw [hk] at sO
  have hcap : CapOk [.ref false (gutD false g) 0] := ⟨fun _ => rfl, fun _ => rfl⟩
  refine sat_of_wp hMix tOk Try.func11 rfl rfl Try.ntmps11 rfl rfl Try.results11 (by kernel_rfl) ?_
  conv => whnf
  repeat (first | (refine go_E22 ?_; conv => whnf) | (refine lk_E22 ?_; conv => whnf))
  first | refine ⟨_, _, rfl, sc_E22 (sO), ?_⟩ | refine .inl ⟨_, _, rfl, sc_E22 (sO), ?_⟩
  conv => whnf
  repeat (first | (refine go_E22 ?_; conv => whnf) | (refine lk_E22 ?_; conv => whnf))
  first | refine ⟨_, _, rfl, sc_E22 (whichP_sat g ho (fun c => !hasB g (endP g c)) hcap fun c hc => undrained1_sat g hg ho c hc), ?_⟩ | refine .inl ⟨_, _, rfl, sc_E22 (whichP_sat g ho (fun c => !hasB g (endP g c)) hcap fun c hc => undrained1_sat g hg ho c hc), ?_⟩
  conv => whnf
  repeat (first | (refine go_E22 ?_; conv => whnf) | (refine lk_E22 ?_; conv => whnf))
  first | refine ⟨rfl, _, rfl, ?_⟩ | refine ⟨_, rfl, ?_⟩
  rfl
theorem basinOf_sat (g : Gut) (hg : g.In) (hk : okG g = true) (c : Nat) (hc : (c : Int) < g.n) : Sat Try.prog 16 [gutD false g, .v (.int .i64 c)] (.tup [intsD true (toI (bsL g c)), .v (.int .i64 0)]) := by
  have ho := okG_ok hk
  have sA := gutterCode_sat g hg true
  rw [ask0 hk] at sA
  have sC := isIn_sat g ho c
  rw [inB hc] at sC
  have hcap : CapOk [.ref false (gutD false g) 0, .ref false (.v (.agg ⟨[.int .i64 c]⟩)) 0] := ⟨fun _ => rfl, fun _ => rfl⟩
  refine sat_of_wp hMix tOk Try.func16 rfl rfl Try.ntmps16 rfl rfl Try.results16 (by kernel_rfl) ?_
  conv => whnf
  repeat (first | (refine go_E22 ?_; conv => whnf) | (refine lk_E22 ?_; conv => whnf))
  first | refine ⟨_, _, rfl, sc_E22 (sC), ?_⟩ | refine .inl ⟨_, _, rfl, sc_E22 (sC), ?_⟩
  conv => whnf
  repeat (first | (refine go_E22 ?_; conv => whnf) | (refine lk_E22 ?_; conv => whnf))
  first | refine ⟨_, _, rfl, sc_E22 (sA), ?_⟩ | refine .inl ⟨_, _, rfl, sc_E22 (sA), ?_⟩
  conv => whnf
  repeat (first | (refine go_E22 ?_; conv => whnf) | (refine lk_E22 ?_; conv => whnf))
  first | refine ⟨_, _, rfl, sc_E22 (whichP_sat g ho (fun k => decide (endP g k = c)) hcap fun k hk => basinOf1_sat g hg ho c k hk), ?_⟩ | refine .inl ⟨_, _, rfl, sc_E22 (whichP_sat g ho (fun k => decide (endP g k = c)) hcap fun k hk => basinOf1_sat g hg ho c k hk), ?_⟩
  conv => whnf
  repeat (first | (refine go_E22 ?_; conv => whnf) | (refine lk_E22 ?_; conv => whnf))
  first | refine ⟨rfl, _, rfl, ?_⟩ | refine ⟨_, rfl, ?_⟩
  rfl
end Go.Proofs.Ytcnenmcagkbppaa
