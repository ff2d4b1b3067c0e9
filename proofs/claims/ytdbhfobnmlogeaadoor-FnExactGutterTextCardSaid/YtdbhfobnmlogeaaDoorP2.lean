import Derived.Test.YtdbhfobnmlogeaaDoorP1
set_option linter.unusedVariables false
set_option linter.unusedSimpArgs false
/- Plain words: lists of things of a fixed number of cells; lists of roofs. -/
set_option linter.unusedVariables false
set_option linter.unusedSimpArgs false
namespace Go.V
section
variable {α : Type} {f : α → List Value} {n : Nat}
theorem fm_len (hf : ∀ x, (f x).length = n) : ∀ l : List α, (l.flatMap f).length = l.length * n
  | [] => by simp
  | x :: l => by rw [List.flatMap_cons, List.length_append, hf, fm_len hf l, List.length_cons, Nat.succ_mul]; omega
end
@[irreducible] def roofsC (rs : List Roof) : List Value := rs.flatMap roofC
theorem roofsC_def (rs : List Roof) : roofsC rs = rs.flatMap roofC := by unfold roofsC; rfl
@[simp] theorem roofsC_len (rs : List Roof) : (roofsC rs).length = rs.length * 67 := by rw [roofsC_def, fm_len roofC_len]
/-- What a pointer into a list of cells leads to, told as cells of its own. -/
theorem Rep.refSub {w : World} {base : Nat} {loc : Loc} {m : Bool} {xs ys : List Value} {off n : Nat} {y : Value} (h : Rep w base loc (.ref m (.v (.agg ⟨xs⟩)) off) y) (hn : (xs.drop off).take n = ys) (hl : ys.length = n) (hpos : 0 < n) :
    Rep w base loc (.ref m (.v (.agg ⟨ys⟩)) 0) y := by
  simp only [Rep] at h ⊢
  obtain ⟨b, o, zs, rfl, hat, hav, hm, hz, hfl⟩ := h
  cases hz
  refine ⟨b, o + off, ys, rfl, ?_, hav, hm, rfl, ?_⟩
  · obtain ⟨k, e, fr, h1, h2, h3⟩ := hat
    have hle : off + n ≤ xs.length := by
      have := congrArg List.length hn
      simp at this
      omega
    refine ⟨k, e, fr, h1, by omega, ?_⟩
    have : ((k.toList.drop o).take xs.length).drop off = xs.drop off := by rw [h3]
    rw [hl, ← hn, ← this, List.drop_take, List.take_take, List.drop_drop, show min n (xs.length - off) = n by omega]
  · simp only [Flat, List.all_eq_true] at hfl ⊢
    intro x hx
    rw [← hn] at hx
    exact hfl x (List.mem_of_mem_drop (List.mem_of_mem_take hx))
theorem Sat.sub {P : Program} {g : FuncId} {m : Bool} {xs ys : List Value} {off n : Nat} {rest : List D} {res : D} (h : Sat P g (.ref m (.v (.agg ⟨ys⟩)) 0 :: rest) res) (hn : (xs.drop off).take n = ys) (hl : ys.length = n) (hpos : 0 < n) :
    Sat P g (.ref m (.v (.agg ⟨xs⟩)) off :: rest) res := by
  refine ⟨h.1, fun w vs hgl hr => h.2 w vs hgl ?_⟩
  simp only [RepL] at hr ⊢
  obtain ⟨y, yss, rfl, h1, h2⟩ := hr
  exact ⟨y, yss, rfl, h1.refSub hn hl hpos, h2⟩
end Go.V
/- Contracts: what the laws do with lists of roofs; roofs that are all as told. -/
set_option linter.unusedVariables false
set_option linter.unusedSimpArgs false
namespace Go.V
def idxX {α : Type} (p : α → Bool) (d : α) (l : List α) : Int := match (List.range l.length).find? (fun i => p (l.getD i d)) with | some i => (i : Int) | none => -1
end Go.V
namespace Go.Proofs.YtdbhfobnmlogeaaDoor
open Go.V
end Go.Proofs.YtdbhfobnmlogeaaDoor
/- Contracts: roofs that are all as told; whether roofs might be. -/
set_option linter.unusedVariables false
set_option linter.unusedSimpArgs false
namespace Go.V
end Go.V
namespace Go.Proofs.YtdbhfobnmlogeaaDoor
open Go.V
end Go.Proofs.YtdbhfobnmlogeaaDoor
/- Contracts: numbers for roofs that drip alike, both sides. -/
set_option linter.unusedVariables false
set_option linter.unusedSimpArgs false
namespace Go.V
/-- Whether two tables are one. -/
def eqD (f g : Nat → Nat → Int) : Bool := (List.range 136).all fun k => f (k / 17) (k % 17) == g (k / 17) (k % 17)
abbrev Tb := Nat → Nat → Int
def zT : Tb := fun _ _ => 0
@[irreducible] def drsC (ds : List Tb) : List Value := ds.flatMap dripC
theorem drsC_def (ds : List Tb) : drsC ds = ds.flatMap dripC := by unfold drsC; rfl
@[simp] theorem drsC_len (ds : List Tb) : (drsC ds).length = ds.length * 136 := by rw [drsC_def, fm_len dripC_len]
/-- Where a table is met first. -/
def gIx (ds : List Tb) (f : Tb) : Int := idxX (eqD f) zT ds
def gNo (ds : List Tb) (f : Tb) : Nat := if gIx ds f < 0 then ds.length else (gIx ds f).toNat
/-- The tables that were met, and the numbers of the first i roofs. -/
def snL (F : Nat → Tb) : Nat → List Tb
  | 0 => []
  | i + 1 => if gIx (snL F i) (F i) < 0 then snL F i ++ [F i] else snL F i
def goL (F : Nat → Tb) (n : Nat) : List Int := qL (fun i => (gNo (snL F i) (F i) : Nat)) n
@[simp] theorem goL_len (F : Nat → Tb) (n : Nat) : (goL F n).length = n := qL_len _ n
theorem nth_part {a x y : D} : ∀ (q : Nat) (c : D), nth [a, x] q = some c → ∃ c0, nth [a, y] q = some c0 ∧ (c0 = c ∨ (c0 = y ∧ c = x))
  | 0, c, h => ⟨a, rfl, .inl (by simpa [nth] using h)⟩
  | 1, c, h => ⟨y, rfl, .inr ⟨rfl, by simpa [nth] using h.symm⟩⟩
  | n + 2, c, h => by simp [nth] at h
theorem cond_part {a x y : D} {c : D} {b : Bool} {q : Nat} (hc : (bif b then nth [a, x] q else none) = some c) : ∃ c0, (bif b then nth [a, y] q else none) = some c0 ∧ (c0 = c ∨ (c0 = y ∧ c = x)) := by
  cases b
  · cases hc
  · exact nth_part q c hc
theorem lentM_part {a x y : D} {id : Id} {c : D} (hc : lentM [a, x] id = some c) : ∃ c0, lentM [a, y] id = some c0 ∧ (c0 = c ∨ (c0 = y ∧ c = x)) := by
  unfold lentM at hc ⊢
  exact cond_part hc
/-- A nil slice in a variable, told as a part. -/
theorem Lent.part {w : World} {l0 : Loc} {a : D} (h : Lent w l0 [a, .v (.agg ⟨[.slice none 0 0]⟩)]) : Lent w l0 [a, .agg [.v (.slice none 0 0)]] := by
  have key : ∀ id c, lentM [a, .agg [.v (.slice none 0 0)]] id = some c → ∃ c0, lentM [a, .v (.agg ⟨[.slice none 0 0]⟩)] id = some c0 ∧ ((c0 = c) ∨ (c0 = .v (.agg ⟨[.slice none 0 0]⟩) ∧ c = .agg [.v (.slice none 0 0)])) :=
    fun id c hc => lentM_part hc
  refine ⟨h.dom, fun id c hc => ?_, h.range, fun id id' c c' b n n' h1 h2 h3 h4 => ?_⟩
  · obtain ⟨c0, g1, g2⟩ := key id c hc
    obtain ⟨l, xs, q1, q2, q3⟩ := h.mem id c0 g1
    rcases g2 with rfl | ⟨rfl, rfl⟩
    · exact ⟨l, xs, q1, q2, q3⟩
    · refine ⟨l, xs, q1, ?_, q3⟩
      simp only [Rep] at q2
      obtain ⟨q2, _⟩ := q2
      simp only [Value.agg.injEq] at q2
      cases q2
      simp only [Rep, RepL]
      exact ⟨_, rfl, ⟨_, _, rfl, ⟨rfl, rfl⟩, rfl⟩, rfl⟩
  · obtain ⟨c0, g1, _⟩ := key id c h1
    obtain ⟨c0', g1', _⟩ := key id' c' h2
    exact h.inj id id' _ _ b n n' g1 g1' h3 h4
theorem SatM.part {P : Program} {g : FuncId} {args : List D} {a res : D} {ms' : List (Option D)} {news : List D} (h : SatM P g args [a, .agg [.v (.slice none 0 0)]] res ms' news) : SatM P g args [a, .v (.agg ⟨[.slice none 0 0]⟩)] res ms' news :=
  ⟨h.1, fun w vs l0 hgl hl hr => h.2 w vs l0 hgl hl.part hr⟩
end Go.V
namespace Go.Proofs.YtdbhfobnmlogeaaDoor
open Go.V
end Go.Proofs.YtdbhfobnmlogeaaDoor
/- The text of drips, both sides, and the law. -/
set_option linter.unusedVariables false
set_option linter.unusedSimpArgs false
namespace Go.V
/- Words for the walks of this text: their default arguments are tried where they are used. -/
end Go.V
namespace Go.V
theorem itoa_len {n : Int} (h : 0 ≤ n ∧ n ≤ 1000) : 1 ≤ (Lib.itoa n).length ∧ (Lib.itoa n).length ≤ 4 := decB_size h
end Go.V
namespace Go.Proofs.YtdbhfobnmlogeaaDoor
open Go.V
end Go.Proofs.YtdbhfobnmlogeaaDoor
/- The text of gutters, both sides, and the law. -/
set_option linter.unusedVariables false
set_option linter.unusedSimpArgs false
namespace Go.V
/- Words for the walks of this text: their default arguments are tried where they are used. -/
theorem go_F6 {P Q : Prop} (k : Q) (h : P := by first | exact strOk (by first | omega | (simp; omega)) | exact Nat.le_of_ble_eq_true rfl | exact rfl | decide | omega | (simp [splice]; done) | (constructor <;> omega) | (simp [splice]; omega)) : P ∧ Q := ⟨h, k⟩
theorem lk_F6 {α : Type} {o : Option α} {K : α → Prop} {x : α} (k : K x) (h : o = some x := by first | exact pcopyA rfl (by omega) | exact pcopyB rfl (by omega) | exact gutA (by omega) | exact hDA (by omega) | exact hDA' (by omega) | exact pipeA (by omega) | exact pipeB (by omega) | exact intA (by omega) | exact intA' (by omega)) : optK o K := optK_of h k
theorem sc_F6 {P : Program} {g : FuncId} {args args' : List D} {res : D} (h : Sat P g args res) (e : args' = args := by repeat (first | rfl | exact vfull (by first | (simp [splice]; done) | (simp [splice]; omega)) | exact rfull (by first | (simp [splice]; done) | (simp [splice]; omega)) | exact vpipe (by simp; done) (by omega) | exact vsplice (by simp) (by simp) | refine ceq ?_ ?_ | refine Eq.trans (vsplice (by first | (simp; done) | (simp; omega)) (by first | (simp; done) | (simp; omega))) ?_)) : Sat P g args' res := Sat.of_eq h e
theorem leaf_F6 {P : Prop} (h : P := by first | rfl | exact succ8 (by omega) | exact succ64 (by omega) | exact CapOk.fn (by assumption) _ _ | exact vintS (by omega) | exact vintS (by rw [w64 (by omega) (by omega)]; omega) | exact vintS (by rw [w8 (by omega) (by omega)]; omega) | exact vslcS (by omega) | exact vslcS (by simp)) : P := h
theorem hold_F6 {P : Prop} (h : P := by (repeat' (first | exact trivial | apply And.intro)) <;> (first | rfl | exact succ8 (by omega) | exact succ64 (by omega) | exact CapOk.fn (by assumption) _ _ | exact vintS (by omega) | exact vintS (by rw [w64 (by omega) (by omega)]; omega) | exact vintS (by rw [w8 (by omega) (by omega)]; omega) | exact vslcS (by omega) | exact vslcS (by simp))) : P := h
theorem okt_F6 {P : Prop} (h : P := by first | omega | (dsimp only; omega) | ((repeat' apply And.intro) <;> omega) | (dsimp only; (repeat' apply And.intro) <;> omega) | trivial) : P := h
end Go.V
namespace Go.V
theorem pcopyA {ps : List (Int × Int)} {i : Nat} {zs : List Value} (hz : zs.length = 2) (h : i < ps.length) : nth (splice zs 0 (((pipesC ps).drop ((i : Int).toNat * 2)).take 2)) (0 + 0) = some (.int .i8 (px ps i).1) := by
  rw [vpipe1 (i := i) (by simp) h, splice_all (by simpa using hz)]; rfl
theorem pcopyB {ps : List (Int × Int)} {i : Nat} {zs : List Value} (hz : zs.length = 2) (h : i < ps.length) : nth (splice zs 0 (((pipesC ps).drop ((i : Int).toNat * 2)).take 2)) (0 + 1) = some (.int .i16 (px ps i).2) := by
  rw [vpipe1 (i := i) (by simp) h, splice_all (by simpa using hz)]; rfl
def lfy (g : Gut) (c : Nat) : UInt8 := if leafB g c = true then 108 else 46
/-- The text of a gutter, part for part. -/
def gtHead (g : Gut) : List UInt8 := Lib.itoa g.n ++ [32] ++ Lib.itoa g.dp ++ [10]
def gtS1 (g : Gut) : Nat → List UInt8
  | 0 => gtHead g
  | k + 1 => gtS1 g k ++ Lib.itoa (g.h k)
def gtS2 (g : Gut) : Nat → List UInt8
  | 0 => gtS1 g g.n.toNat ++ [10]
  | k + 1 => gtS2 g k ++ [lfy g k]
def gtP (q : Int × Int) : List UInt8 := Lib.itoa q.1 ++ [32] ++ Lib.itoa q.2 ++ [10]
def gtS3 (g : Gut) : Nat → List UInt8
  | 0 => gtS2 g g.n.toNat ++ [10]
  | i + 1 => gtS3 g i ++ gtP (px g.ps i)
def lfL (g : Gut) (n : Nat) : List UInt8 := (List.range n).map (lfy g)
theorem gtS2_eq (g : Gut) : ∀ k, gtS2 g k = gtS1 g g.n.toNat ++ [10] ++ lfL g k
  | 0 => by simp [gtS2, lfL]
  | k + 1 => by rw [gtS2, gtS2_eq g k]; simp [lfL, List.range_succ]
def gutText (g : Gut) : ByteArray := if okG g = true then bsOf (gtS3 g g.ps.length) else ⟨#[]⟩
theorem and32_01 (x : Int) : IntKind.u32.wrap (BitVec.ofInt IntKind.u32.bits x &&& BitVec.ofInt IntKind.u32.bits 1).toNat = 0 ∨ IntKind.u32.wrap (BitVec.ofInt IntKind.u32.bits x &&& BitVec.ofInt IntKind.u32.bits 1).toNat = 1 := by
  have h : (BitVec.ofInt IntKind.u32.bits x &&& BitVec.ofInt IntKind.u32.bits 1).toNat = (BitVec.ofInt 32 x).toNat % 2 := by
    show (BitVec.ofInt 32 x &&& BitVec.ofInt 32 1).toNat = _
    rw [BitVec.toNat_and, show (BitVec.ofInt 32 1).toNat = 1 by decide, Nat.and_one_is_mod]
  rw [h]
  rcases Nat.mod_two_eq_zero_or_one (BitVec.ofInt 32 x).toNat with e | e <;> rw [e]
  · left; rfl
  · right; rfl
theorem lf_byte (g : Gut) (c : Nat) {v : Int} (h : v = 0 ∨ v = 1) (hb : leafB g c = (v == 1)) : byteAt ⟨#[46, 108]⟩ v.toNat = ((lfy g c).toNat : Int) := by
  unfold lfy
  rw [hb]
  rcases h with rfl | rfl <;> rfl
theorem bytes_snoc (l : List UInt8) (x : UInt8) : byteVals (bsOf l) ++ [.int .u8 (x.toNat : Int)] = byteVals (bsOf (l ++ [x])) := by simp [byteVals, bsOf]
theorem lfL_next (g : Gut) (n : Nat) : lfL g (n + 1) = lfL g n ++ [lfy g n] := by simp [lfL, List.range_succ]
@[simp] theorem lfL_len (g : Gut) (n : Nat) : (lfL g n).length = n := by simp [lfL]
theorem gtS1_len {g : Gut} (ho : g.Ok) : ∀ k, k ≤ 17 → (gtS1 g k).length ≤ 10 + k * 4
  | 0, _ => by
    have h1 := ho.n; have h2 := ho.dp
    have := itoa_len (n := g.n) (by omega); have := itoa_len (n := g.dp) (by omega)
    simp only [gtS1, gtHead, List.length_append, List.length_cons, List.length_nil]; omega
  | k + 1, hk => by
    have := gtS1_len ho k (by omega)
    have h3 := ho.h k (by omega)
    have := itoa_len (n := g.h k) (by omega)
    simp only [gtS1, List.length_append]; omega
theorem gtS2_len {g : Gut} (ho : g.Ok) : ∀ k, k ≤ 17 → (gtS2 g k).length ≤ 100 + k
  | 0, _ => by
    have := gtS1_len ho g.n.toNat (by have := ho.n; omega)
    have h1 := ho.n
    simp only [gtS2, List.length_append, List.length_cons, List.length_nil]; omega
  | k + 1, hk => by
    have := gtS2_len ho k (by omega)
    simp only [gtS2, List.length_append, List.length_cons, List.length_nil]; omega
theorem gtP_len {q : Int × Int} (h1 : 0 ≤ q.1 ∧ q.1 ≤ 1000) (h2 : 0 ≤ q.2 ∧ q.2 ≤ 1000) : (gtP q).length ≤ 10 := by
  have := itoa_len h1; have := itoa_len h2
  simp only [gtP, List.length_append, List.length_cons, List.length_nil]; omega
theorem gtS3_len {g : Gut} (ho : g.Ok) : ∀ k, k ≤ g.ps.length → (gtS3 g k).length ≤ 200 + k * 10
  | 0, _ => by
    have := gtS2_len ho g.n.toNat (by have := ho.n; omega)
    have h1 := ho.n
    simp only [gtS3, List.length_append, List.length_cons, List.length_nil]; omega
  | k + 1, hk => by
    have := gtS3_len ho k (by omega)
    have h2 := ho.ps k (by omega)
    have h3 := ho.n
    have := gtP_len (q := px g.ps k) (by omega) (by omega)
    simp only [gtS3, List.length_append]; omega
theorem gtP_bs (q : Int × Int) : decB q.1 ++ ⟨#[32]⟩ ++ decB q.2 ++ ⟨#[10]⟩ = bsOf (gtP q) := by
  unfold gtP decB
  show bsOf _ ++ bsOf [32] ++ bsOf _ ++ bsOf [10] = _
  rw [bs_append, bs_append, bs_append]
theorem gtHead_bs (g : Gut) : decB g.n ++ ⟨#[32]⟩ ++ decB g.dp ++ ⟨#[10]⟩ = bsOf (gtHead g) := gtP_bs (g.n, g.dp)
end Go.V
namespace Go.Proofs.YtdbhfobnmlogeaaDoor
open Go.V
theorem dec8_sat (n : Int) (hn : -128 ≤ n ∧ n ≤ 127) : Sat Tryd.prog 122 [.v (.int .i8 n)] (.v (.string (decB n))) := by
  refine sat_of_wp hMix tOk Tryd.func122 rfl rfl Tryd.ntmps122 rfl rfl Tryd.results122 (by kernel_rfl) ?_
  conv => whnf
  repeat (first | (refine go_F6 ?_; conv => whnf) | (refine lk_F6 ?_; conv => whnf))
  rw [show IntKind.i64.wrap n = n from w64 (by omega) (by omega)]
  first | refine ⟨_, _, rfl, sc_F6 (formatInt_sat n (by omega) (by omega)), ?_⟩ | refine .inl ⟨_, _, rfl, sc_F6 (formatInt_sat n (by omega) (by omega)), ?_⟩
  conv => whnf
  repeat (first | (refine go_F6 ?_; conv => whnf) | (refine lk_F6 ?_; conv => whnf))
  first | refine ⟨rfl, _, rfl, ?_⟩ | refine ⟨_, rfl, ?_⟩
  rfl
theorem leafByte_sat (g : Gut) (c : Nat) (hc : c < 17) : Sat Tryd.prog 125 [gutD false g, .v (.int .i64 c)] (.v (.int .u8 ((lfy g c).toNat : Int))) := by
  have h01 := and32_01 (g.lv.fdiv (2 ^ (min (c : Int).toNat IntKind.u32.bits)))
  have hbb : leafB g c = (IntKind.u32.wrap (BitVec.ofInt IntKind.u32.bits (g.lv.fdiv (2 ^ (min (c : Int).toNat IntKind.u32.bits))) &&& BitVec.ofInt IntKind.u32.bits 1).toNat == 1) := rfl
  refine sat_of_wp hMix tOk Tryd.func125 rfl rfl Tryd.ntmps125 rfl rfl Tryd.results125 (by kernel_rfl) ?_
  conv => whnf
  repeat (first | (refine go_F6 ?_; conv => whnf) | (refine lk_F6 ?_; conv => whnf))
  generalize IntKind.u32.wrap (BitVec.ofInt IntKind.u32.bits (g.lv.fdiv (2 ^ (min (c : Int).toNat IntKind.u32.bits))) &&& BitVec.ofInt IntKind.u32.bits 1).toNat = v at *
  refine ⟨by show 0 ≤ v ∧ v < 2; omega, ?_⟩
  conv => whnf
  rw [lf_byte g c h01 hbb]
  conv => whnf
  repeat (first | (refine go_F6 ?_; conv => whnf) | (refine lk_F6 ?_; conv => whnf))
  first | refine ⟨rfl, _, rfl, ?_⟩ | refine ⟨_, rfl, ?_⟩
  rfl
theorem eachIB_sat (g : Gut) (n : Nat) (hn : n ≤ 17) (m : Bool) :
    Sat Tryd.prog 124 [intsD m (upL n), .fn (.func 125) [gutD false g] []] (.row true 1 (.v (.agg ⟨byteVals (bsOf (lfL g n))⟩)) n) := by
  refine satN_of_wp hMix tOk Tryd.func124 rfl rfl Tryd.ntmps124 rfl rfl Tryd.results124 (by kernel_rfl) ?_
  conv => whnf
  repeat (first | (refine go_F6 ?_; conv => whnf) | (refine lk_F6 ?_; conv => whnf))
  refine loop_rule (α := Nat) (fun i => [(1, .fn (.func 125) [gutD false g] []), (5, .slc true 1 (19, 0, 0) 0 i), (8, intsD m (upL n)), (9, .v (.int .i64 n)), (10, .v (.int .i64 i))]) (fun i => [((19, 0, 0), .v (.agg ⟨byteVals (bsOf (lfL g i))⟩))]) (fun i => i ≤ n) (fun i => n - i) (0) ?_ (sim_of (rn := [((19, 0, 0), nilId)]) rfl ?_ ?_) ?_
  · exact okt_F6
  · ((repeat' (first | exact trivial | apply And.intro)) <;> (first | rfl | (first | rfl | exact vintS (by simp)) | exact leaf_F6))
  · ((repeat' (first | exact trivial | apply And.intro)) <;> ((first | refine ⟨_, _, rfl, rfl, ?_⟩ ); first | rfl | (rfl)))
  intro i hi
  have hul : (upL n).length = n := by simp
  conv => whnf
  repeat (first | (refine go_F6 ?_; conv => whnf) | (refine lk_F6 ?_; conv => whnf))
  cases h : decide ((i : Int) < (n : Int))
  · have hin : i = n := by simp at h; omega
    subst hin
    conv => whnf
    repeat (first | (refine go_F6 ?_; conv => whnf) | (refine lk_F6 ?_; conv => whnf))
    first | refine ⟨rfl, _, rfl, [_], rfl, ?_, rfl⟩ | refine ⟨_, rfl, [_], rfl, ?_, rfl⟩
    ((repeat' (first | exact trivial | apply And.intro)) <;> first | exact .inl rfl | exact .inr ⟨rfl, rfl⟩)
  have hin : i < n := by simpa using h
  conv => whnf
  repeat (first | (refine go_F6 ?_; conv => whnf) | (refine lk_F6 ?_; conv => whnf))
  rw [upL_ix hin]
  first | refine ⟨_, _, rfl, sc_F6 (leafByte_sat g i (by omega)), ?_⟩ | refine .inl ⟨_, _, rfl, sc_F6 (leafByte_sat g i (by omega)), ?_⟩
  conv => whnf
  repeat (first | (refine go_F6 ?_; conv => whnf) | (refine lk_F6 ?_; conv => whnf))
  have e2 : byteVals (bsOf (lfL g i)) ++ [.int .u8 ((lfy g i).toNat : Int)] = byteVals (bsOf (lfL g (i + 1))) := by rw [lfL_next, bytes_snoc]
  refine ⟨i + 1, ?_, ?_, sim_of (rn := [((19, 0, 0), (19, 1, 0))]) rfl ?_ ?_⟩
  · (dsimp only; omega)
  · exact okt_F6
  · exact hold_F6
  · ((repeat' (first | exact trivial | apply And.intro)) <;> ((first | refine ⟨_, _, rfl, rfl, ?_⟩ ); first | rfl | (exact cset e2)))
theorem gutterText_sat (g : Gut) (hg : g.In) (ho : g.Ok) : Sat Tryd.prog 65 [gutD false g] (.v (.string (bsOf (gtS3 g g.ps.length)))) := by
  have hn := ho.n
  have hdp := ho.dp
  have hlen := ho.len
  have hs1 := decB_size (n := g.n) (by omega)
  have hs2 := decB_size (n := g.dp) (by omega)
  have hc32 : (⟨#[32]⟩ : ByteArray).size = 1 := rfl
  have hc10 : (⟨#[10]⟩ : ByteArray).size = 1 := rfl
  have hh := gtHead_bs g
  obtain ⟨n, hnn⟩ : ∃ n : Nat, g.n = n := ⟨g.n.toNat, by omega⟩
  refine sat_of_wp hMix tOk Tryd.func65 rfl rfl Tryd.ntmps65 rfl rfl Tryd.results65 (by kernel_rfl) ?_
  conv => whnf
  repeat (first | (refine go_F6 ?_; conv => whnf) | (refine lk_F6 ?_; conv => whnf))
  first | refine ⟨_, _, rfl, sc_F6 (dec8_sat g.n (by omega)), ?_⟩ | refine .inl ⟨_, _, rfl, sc_F6 (dec8_sat g.n (by omega)), ?_⟩
  conv => whnf
  repeat (first | (refine go_F6 ?_; conv => whnf) | (refine lk_F6 ?_; conv => whnf))
  first | refine ⟨_, _, rfl, sc_F6 (dec16_sat g.dp (by omega)), ?_⟩ | refine .inl ⟨_, _, rfl, sc_F6 (dec16_sat g.dp (by omega)), ?_⟩
  conv => whnf
  repeat (first | (refine go_F6 ?_; conv => whnf) | (refine lk_F6 ?_; conv => whnf))
  have hul : (upL g.n.toNat).length = g.n.toNat := by simp
  have hG := gcells_sat g ho
  have h1l := gtS1_len ho
  have h3l := gtS3_len ho
  have e12 : bsOf (gtS1 g g.n.toNat) ++ (⟨#[10]⟩ ++ bsOf (lfL g g.n.toNat) ++ ⟨#[10]⟩) = bsOf (gtS3 g 0) := by
    show bsOf _ ++ (bsOf [10] ++ bsOf _ ++ bsOf [10]) = _
    rw [bs_append, bs_append, bs_append, gtS3, gtS2_eq]; simp
  generalize hN : g.n.toNat = N at *
  first | refine ⟨_, _, rfl, sc_F6 (hG), ?_⟩ | refine .inl ⟨_, _, rfl, sc_F6 (hG), ?_⟩
  conv => whnf
  repeat (first | (refine go_F6 ?_; conv => whnf) | (refine lk_F6 ?_; conv => whnf))
  rw [hh]
  refine loop_rule (α := Nat) (fun k => [(1, .ptr (1, 0, 0) 0), (3, .v (.string (bsOf (gtS1 g k)))), (18, .slc true 1 (18, 0, 0) 0 N), (19, .v (.int .i64 N)), (20, .v (.int .i64 k))]) (fun k => [((1, 0, 0), gutD false g), ((18, 0, 0), .v (.agg ⟨intsC (upL N)⟩))]) (fun k => k ≤ N) (fun k => N - k) (0) ?_ (sim_of (rn := [((1, 0, 0), (1, 0, 0)), ((18, 0, 0), (18, 0, 0))]) rfl ?_ ?_) ?_
  · exact okt_F6
  · ((repeat' (first | exact trivial | apply And.intro)) <;> (first | rfl | (first | exact vslcS (by simp) | exact vintS (by simp)) | exact leaf_F6))
  · ((repeat' (first | exact trivial | apply And.intro)) <;> ((first | refine ⟨_, _, rfl, rfl, ?_⟩ ); rfl))
  intro k hk
  have hk1 := h1l k (by omega)
  conv => whnf
  repeat (first | (refine go_F6 ?_; conv => whnf) | (refine lk_F6 ?_; conv => whnf))
  cases h1 : decide ((k : Int) < (N : Int))
  · have hkn : k = N := by simp at h1; omega
    subst hkn
    have hll := lfL_len g k
    conv => whnf
    repeat (first | (refine go_F6 ?_; conv => whnf) | (refine lk_F6 ?_; conv => whnf))
    first | refine ⟨_, _, rfl, sc_F6 (hG), ?_⟩ | refine .inl ⟨_, _, rfl, sc_F6 (hG), ?_⟩
    conv => whnf
    repeat (first | (refine go_F6 ?_; conv => whnf) | (refine lk_F6 ?_; conv => whnf))
    first | refine ⟨_, _, rfl, sc_F6 (eachIB_sat g k (by omega) false), ?_⟩ | refine .inl ⟨_, _, rfl, sc_F6 (eachIB_sat g k (by omega) false), ?_⟩
    conv => whnf
    repeat (first | (refine go_F6 ?_; conv => whnf) | (refine lk_F6 ?_; conv => whnf))
    refine ⟨bsOf (lfL g k), ⟨rfl, by rw [bs_size, hll], (by show List.take (k * 1) (List.drop 0 (byteVals (bsOf (lfL g k)))) = _; rw [List.drop_zero]; exact List.take_of_length_le (by rw [byteVals_len, bs_size, hll]; omega)), rfl⟩, ?_⟩
    conv => whnf
    repeat (first | (refine go_F6 ?_; conv => whnf) | (refine lk_F6 ?_; conv => whnf))
    rw [e12]
    refine loop_rule (α := Nat) (fun i => [(3, .v (.string (bsOf (gtS3 g i)))), (43, pipesD false g.ps), (44, .v (.int .i64 g.ps.length)), (45, .v (.int .i64 i))]) (fun i => []) (fun i => i ≤ g.ps.length) (fun i => g.ps.length - i) (0) ?_ (sim_of (rn := []) rfl ?_ ?_) ?_
    · exact okt_F6
    · exact hold_F6
    · ((repeat' (first | exact trivial | apply And.intro)) <;> ((first | refine ⟨_, _, rfl, rfl, ?_⟩ ); rfl))
    intro i hi
    have hk3 := h3l i hi
    conv => whnf
    repeat (first | (refine go_F6 ?_; conv => whnf) | (refine lk_F6 ?_; conv => whnf))
    cases h2 : decide ((i : Int) < (g.ps.length : Int))
    · have hin : i = g.ps.length := by simp at h2; omega
      subst hin
      conv => whnf
      repeat (first | (refine go_F6 ?_; conv => whnf) | (refine lk_F6 ?_; conv => whnf))
      first | refine ⟨rfl, _, rfl, ?_⟩ | refine ⟨_, rfl, ?_⟩
      rfl
    have hin : i < g.ps.length := by simpa using h2
    have hp := ho.ps i hin
    have hp1 := decB_size (n := (px g.ps i).1) (by omega)
    have hp2 := decB_size (n := (px g.ps i).2) (by omega)
    have hpb := gtP_bs (px g.ps i)
    conv => whnf
    repeat (first | (refine go_F6 ?_; conv => whnf) | (refine lk_F6 ?_; conv => whnf))
    first | refine ⟨_, _, rfl, sc_F6 (dec8_sat (px g.ps i).1 (by omega)), ?_⟩ | refine .inl ⟨_, _, rfl, sc_F6 (dec8_sat (px g.ps i).1 (by omega)), ?_⟩
    conv => whnf
    repeat (first | (refine go_F6 ?_; conv => whnf) | (refine lk_F6 ?_; conv => whnf))
    first | refine ⟨_, _, rfl, sc_F6 (dec16_sat (px g.ps i).2 (by omega)), ?_⟩ | refine .inl ⟨_, _, rfl, sc_F6 (dec16_sat (px g.ps i).2 (by omega)), ?_⟩
    conv => whnf
    repeat (first | (refine go_F6 ?_; conv => whnf) | (refine lk_F6 ?_; conv => whnf))
    refine ⟨i + 1, ?_, ?_, sim_of (rn := []) rfl ?_ ?_⟩
    · (dsimp only; omega)
    · exact okt_F6
    · ((repeat' (first | exact trivial | apply And.intro)) <;> (first | rfl | (exact vstrS (by rw [gtS3, ← bs_append, ← hpb]; rfl)) | exact leaf_F6))
    · ((repeat' (first | exact trivial | apply And.intro)) <;> ((first | refine ⟨_, _, rfl, rfl, ?_⟩ ); rfl))
  have hkn : k < N := by simpa using h1
  have hhk := ho.h k (by omega)
  have hsk := decB_size (n := g.h k) (by omega)
  conv => whnf
  repeat (first | (refine go_F6 ?_; conv => whnf) | (refine lk_F6 ?_; conv => whnf))
  rw [upL_ix hkn]
  conv => whnf
  repeat (first | (refine go_F6 ?_; conv => whnf) | (refine lk_F6 ?_; conv => whnf))
  first | refine ⟨_, _, rfl, sc_F6 (dec8_sat (g.h k) (by omega)), ?_⟩ | refine .inl ⟨_, _, rfl, sc_F6 (dec8_sat (g.h k) (by omega)), ?_⟩
  conv => whnf
  repeat (first | (refine go_F6 ?_; conv => whnf) | (refine lk_F6 ?_; conv => whnf))
  refine ⟨k + 1, ?_, ?_, sim_of (rn := [((1, 0, 0), (1, 0, 0)), ((18, 0, 0), (18, 0, 0))]) rfl ?_ ?_⟩
  · (dsimp only; omega)
  · exact okt_F6
  · ((repeat' (first | exact trivial | apply And.intro)) <;> (first | rfl | (exact vstrS (by rw [gtS1, ← bs_append]; rfl)) | exact leaf_F6))
  · ((repeat' (first | exact trivial | apply And.intro)) <;> ((first | refine ⟨_, _, rfl, rfl, ?_⟩ ); rfl))
theorem l06Text_sat (g : Gut) (hg : g.In) (ho : g.Ok) : Sat Tryd.prog 61 [.ref false (gutD false g) 0] (.v (.string (bsOf (gtS3 g g.ps.length)))) := by
  have hn := ho.n
  have hdp := ho.dp
  have hlen := ho.len
  have hs1 := decB_size (n := g.n) (by omega)
  have hs2 := decB_size (n := g.dp) (by omega)
  have hc32 : (⟨#[32]⟩ : ByteArray).size = 1 := rfl
  have hc10 : (⟨#[10]⟩ : ByteArray).size = 1 := rfl
  have hh := gtHead_bs g
  refine sat_of_wp hMix tOk Tryd.func61 rfl rfl Tryd.ntmps61 rfl rfl Tryd.results61 (by kernel_rfl) ?_
  conv => whnf
  repeat (first | (refine go_F6 ?_; conv => whnf) | (refine lk_F6 ?_; conv => whnf))
  rw [show IntKind.i64.wrap g.n = g.n from w64 (by omega) (by omega)]
  first | refine ⟨_, _, rfl, sc_F6 (decimalI_sat (n := g.n) (by omega)), ?_⟩ | refine .inl ⟨_, _, rfl, sc_F6 (decimalI_sat (n := g.n) (by omega)), ?_⟩
  conv => whnf
  repeat (first | (refine go_F6 ?_; conv => whnf) | (refine lk_F6 ?_; conv => whnf))
  rw [show IntKind.i64.wrap g.dp = g.dp from w64 (by omega) (by omega)]
  first | refine ⟨_, _, rfl, sc_F6 (decimalI_sat (n := g.dp) (by omega)), ?_⟩ | refine .inl ⟨_, _, rfl, sc_F6 (decimalI_sat (n := g.dp) (by omega)), ?_⟩
  conv => whnf
  repeat (first | (refine go_F6 ?_; conv => whnf) | (refine lk_F6 ?_; conv => whnf))
  rw [hh]
  have en : IntKind.i64.wrap g.n = g.n := w64 (by omega) (by omega)
  have h1l := gtS1_len ho
  have h2l := gtS2_len ho
  have h3l := gtS3_len ho
  refine loop_rule (α := Nat) (fun k => [(0, .ref false (gutD false g) 0), (3, .v (.string (bsOf (gtS1 g k)))), (4, .v (.int .i64 k))]) (fun k => []) (fun k => k ≤ g.n.toNat) (fun k => g.n.toNat - k) (0) ?_ (sim_of (rn := []) rfl ?_ ?_) ?_
  · exact okt_F6
  · exact hold_F6
  · ((repeat' (first | exact trivial | apply And.intro)) <;> ((first | refine ⟨_, _, rfl, rfl, ?_⟩ ); rfl))
  intro k hk
  have hk1 := h1l k (by omega)
  conv => whnf
  repeat (first | (refine go_F6 ?_; conv => whnf) | (refine lk_F6 ?_; conv => whnf))
  rw [en]
  cases h1 : decide ((k : Int) < g.n)
  case true =>
    have hkn : (k : Int) < g.n := by simpa using h1
    have hhk := ho.h k (by omega)
    have hsk := decB_size (n := g.h k) (by omega)
    conv => whnf
    repeat (first | (refine go_F6 ?_; conv => whnf) | (refine lk_F6 ?_; conv => whnf))
    rw [show IntKind.i64.wrap (g.h k) = g.h k from w64 (by omega) (by omega)]
    first | refine ⟨_, _, rfl, sc_F6 (decimalI_sat (n := g.h k) (by omega)), ?_⟩ | refine .inl ⟨_, _, rfl, sc_F6 (decimalI_sat (n := g.h k) (by omega)), ?_⟩
    conv => whnf
    repeat (first | (refine go_F6 ?_; conv => whnf) | (refine lk_F6 ?_; conv => whnf))
    refine ⟨k + 1, ?_, ?_, sim_of (rn := []) rfl ?_ ?_⟩
    · (dsimp only; omega)
    · exact okt_F6
    · ((repeat' (first | exact trivial | apply And.intro)) <;> (first | rfl | (exact vstrS (by rw [gtS1, ← bs_append]; rfl)) | exact leaf_F6))
    · ((repeat' (first | exact trivial | apply And.intro)) <;> ((first | refine ⟨_, _, rfl, rfl, ?_⟩ ); rfl))
  have hkn : k = g.n.toNat := by simp at h1; omega
  subst hkn
  conv => whnf
  repeat (first | (refine go_F6 ?_; conv => whnf) | (refine lk_F6 ?_; conv => whnf))
  rw [show bsOf (gtS1 g g.n.toNat) ++ (⟨#[10]⟩ : ByteArray) = bsOf (gtS2 g 0) by rw [gtS2, ← bs_append]; rfl]
  refine loop_rule (α := Nat) (fun k => [(0, .ref false (gutD false g) 0), (3, .v (.string (bsOf (gtS2 g k)))), (5, .v (.int .i64 k))]) (fun k => []) (fun k => k ≤ g.n.toNat) (fun k => g.n.toNat - k) (0) ?_ (sim_of (rn := []) rfl ?_ ?_) ?_
  · exact okt_F6
  · exact hold_F6
  · ((repeat' (first | exact trivial | apply And.intro)) <;> ((first | refine ⟨_, _, rfl, rfl, ?_⟩ ); rfl))
  intro k hk
  have hk2 := h2l k (by omega)
  conv => whnf
  repeat (first | (refine go_F6 ?_; conv => whnf) | (refine lk_F6 ?_; conv => whnf))
  rw [en]
  cases h2 : decide ((k : Int) < g.n)
  case true =>
    have hkn : (k : Int) < g.n := by simpa using h2
    have hc46 : (⟨#[46]⟩ : ByteArray).size = 1 := rfl
    have hc108 : (⟨#[108]⟩ : ByteArray).size = 1 := rfl
    conv => whnf
    repeat (first | (refine go_F6 ?_; conv => whnf) | (refine lk_F6 ?_; conv => whnf))
    first | refine ⟨_, _, rfl, sc_F6 (l06Leaf_sat g k (by omega)), ?_⟩ | refine .inl ⟨_, _, rfl, sc_F6 (l06Leaf_sat g k (by omega)), ?_⟩
    conv => whnf
    repeat (first | (refine go_F6 ?_; conv => whnf) | (refine lk_F6 ?_; conv => whnf))
    cases h3 : leafB g k
    · conv => whnf
      repeat (first | (refine go_F6 ?_; conv => whnf) | (refine lk_F6 ?_; conv => whnf))
      refine ⟨k + 1, ?_, ?_, sim_of (rn := []) rfl ?_ ?_⟩
      · (dsimp only; omega)
      · exact okt_F6
      · ((repeat' (first | exact trivial | apply And.intro)) <;> (first | rfl | (exact vstrS (by rw [gtS2, ← bs_append, show lfy g k = 46 by unfold lfy; rw [h3]; rfl]; rfl)) | exact leaf_F6))
      · ((repeat' (first | exact trivial | apply And.intro)) <;> ((first | refine ⟨_, _, rfl, rfl, ?_⟩ ); rfl))
    · conv => whnf
      repeat (first | (refine go_F6 ?_; conv => whnf) | (refine lk_F6 ?_; conv => whnf))
      refine ⟨k + 1, ?_, ?_, sim_of (rn := []) rfl ?_ ?_⟩
      · (dsimp only; omega)
      · exact okt_F6
      · ((repeat' (first | exact trivial | apply And.intro)) <;> (first | rfl | (exact vstrS (by rw [gtS2, ← bs_append, show lfy g k = 108 by unfold lfy; rw [h3]; rfl]; rfl)) | exact leaf_F6))
      · ((repeat' (first | exact trivial | apply And.intro)) <;> ((first | refine ⟨_, _, rfl, rfl, ?_⟩ ); rfl))
  have hkn : k = g.n.toNat := by simp at h2; omega
  subst hkn
  conv => whnf
  repeat (first | (refine go_F6 ?_; conv => whnf) | (refine lk_F6 ?_; conv => whnf))
  rw [show bsOf (gtS2 g g.n.toNat) ++ (⟨#[10]⟩ : ByteArray) = bsOf (gtS3 g 0) by rw [gtS3, ← bs_append]; rfl]
  refine loop_rule (α := Nat) (fun i => [(0, .ref false (gutD false g) 0), (3, .v (.string (bsOf (gtS3 g i)))), (6, .v (.int .i64 i))]) (fun i => []) (fun i => i ≤ g.ps.length) (fun i => g.ps.length - i) (0) ?_ (sim_of (rn := []) rfl ?_ ?_) ?_
  · exact okt_F6
  · exact hold_F6
  · ((repeat' (first | exact trivial | apply And.intro)) <;> ((first | refine ⟨_, _, rfl, rfl, ?_⟩ ); rfl))
  intro i hi
  have hk3 := h3l i hi
  conv => whnf
  repeat (first | (refine go_F6 ?_; conv => whnf) | (refine lk_F6 ?_; conv => whnf))
  cases h4 : decide ((i : Int) < (g.ps.length : Int))
  · have hin : i = g.ps.length := by simp at h4; omega
    subst hin
    conv => whnf
    repeat (first | (refine go_F6 ?_; conv => whnf) | (refine lk_F6 ?_; conv => whnf))
    first | refine ⟨rfl, _, rfl, ?_⟩ | refine ⟨_, rfl, ?_⟩
    rfl
  have hin : i < g.ps.length := by simpa using h4
  have hp := ho.ps i hin
  have hp1 := decB_size (n := (px g.ps i).1) (by omega)
  have hp2 := decB_size (n := (px g.ps i).2) (by omega)
  have hpb := gtP_bs (px g.ps i)
  conv => whnf
  repeat (first | (refine go_F6 ?_; conv => whnf) | (refine lk_F6 ?_; conv => whnf))
  rw [show IntKind.i64.wrap (px g.ps i).1 = (px g.ps i).1 from w64 (by omega) (by omega)]
  first | refine ⟨_, _, rfl, sc_F6 (decimalI_sat (n := (px g.ps i).1) (by omega)), ?_⟩ | refine .inl ⟨_, _, rfl, sc_F6 (decimalI_sat (n := (px g.ps i).1) (by omega)), ?_⟩
  conv => whnf
  repeat (first | (refine go_F6 ?_; conv => whnf) | (refine lk_F6 ?_; conv => whnf))
  rw [show IntKind.i64.wrap (px g.ps i).2 = (px g.ps i).2 from w64 (by omega) (by omega)]
  first | refine ⟨_, _, rfl, sc_F6 (decimalI_sat (n := (px g.ps i).2) (by omega)), ?_⟩ | refine .inl ⟨_, _, rfl, sc_F6 (decimalI_sat (n := (px g.ps i).2) (by omega)), ?_⟩
  conv => whnf
  repeat (first | (refine go_F6 ?_; conv => whnf) | (refine lk_F6 ?_; conv => whnf))
  refine ⟨i + 1, ?_, ?_, sim_of (rn := []) rfl ?_ ?_⟩
  · (dsimp only; omega)
  · exact okt_F6
  · ((repeat' (first | exact trivial | apply And.intro)) <;> (first | rfl | (exact vstrS (by rw [gtS3, ← bs_append, ← hpb]; rfl)) | exact leaf_F6))
  · ((repeat' (first | exact trivial | apply And.intro)) <;> ((first | refine ⟨_, _, rfl, rfl, ?_⟩ ); rfl))
theorem implGutterText_sat (g : Gut) (hg : g.In) : Sat Tryd.prog 18 [gutD false g] (.v (.string (gutText g))) := by
  refine sat_of_wp hMix tOk Tryd.func18 rfl rfl Tryd.ntmps18 rfl rfl Tryd.results18 (by kernel_rfl) ?_
  conv => whnf
  repeat (first | (refine go_F6 ?_; conv => whnf) | (refine lk_F6 ?_; conv => whnf))
  first | refine ⟨_, _, rfl, sc_F6 (validGutter_sat g hg), ?_⟩ | refine .inl ⟨_, _, rfl, sc_F6 (validGutter_sat g hg), ?_⟩
  conv => whnf
  repeat (first | (refine go_F6 ?_; conv => whnf) | (refine lk_F6 ?_; conv => whnf))
  cases hO : okG g
  · conv => whnf
    repeat (first | (refine go_F6 ?_; conv => whnf) | (refine lk_F6 ?_; conv => whnf))
    first | refine ⟨rfl, _, rfl, ?_⟩ | refine ⟨_, rfl, ?_⟩
    skip
    unfold gutText; rw [hO]; rfl
  rw [show gutText g = bsOf (gtS3 g g.ps.length) by unfold gutText; rw [if_pos hO]]
  conv => whnf
  repeat (first | (refine go_F6 ?_; conv => whnf) | (refine lk_F6 ?_; conv => whnf))
  first | refine ⟨_, _, rfl, sc_F6 (gutterText_sat g hg (okG_ok hO)), ?_⟩ | refine .inl ⟨_, _, rfl, sc_F6 (gutterText_sat g hg (okG_ok hO)), ?_⟩
  conv => whnf
  repeat (first | (refine go_F6 ?_; conv => whnf) | (refine lk_F6 ?_; conv => whnf))
  first | refine ⟨rfl, _, rfl, ?_⟩ | refine ⟨_, rfl, ?_⟩
  rfl
theorem specGutterText_sat (g : Gut) (hg : g.In) : Sat Tryd.prog 16 [gutD false g] (.v (.string (gutText g))) := by
  refine sat_of_wp hMix tOk Tryd.func16 rfl rfl Tryd.ntmps16 rfl rfl Tryd.results16 (by kernel_rfl) ?_
  conv => whnf
  repeat (first | (refine go_F6 ?_; conv => whnf) | (refine lk_F6 ?_; conv => whnf))
  first | refine ⟨_, _, rfl, sc_F6 (l06Ok_sat g hg), ?_⟩ | refine .inl ⟨_, _, rfl, sc_F6 (l06Ok_sat g hg), ?_⟩
  conv => whnf
  repeat (first | (refine go_F6 ?_; conv => whnf) | (refine lk_F6 ?_; conv => whnf))
  cases hO : okG g
  · conv => whnf
    repeat (first | (refine go_F6 ?_; conv => whnf) | (refine lk_F6 ?_; conv => whnf))
    first | refine ⟨rfl, _, rfl, ?_⟩ | refine ⟨_, rfl, ?_⟩
    skip
    unfold gutText; rw [hO]; rfl
  rw [show gutText g = bsOf (gtS3 g g.ps.length) by unfold gutText; rw [if_pos hO]]
  conv => whnf
  repeat (first | (refine go_F6 ?_; conv => whnf) | (refine lk_F6 ?_; conv => whnf))
  first | refine ⟨_, _, rfl, sc_F6 (l06Text_sat g hg (okG_ok hO)), ?_⟩ | refine .inl ⟨_, _, rfl, sc_F6 (l06Text_sat g hg (okG_ok hO)), ?_⟩
  conv => whnf
  repeat (first | (refine go_F6 ?_; conv => whnf) | (refine lk_F6 ?_; conv => whnf))
  first | refine ⟨rfl, _, rfl, ?_⟩ | refine ⟨_, rfl, ?_⟩
  rfl
theorem fnExactGutterText_sat (g : Gut) (hg : g.In) : Sat Tryd.prog 4 [gutD false g] (.v (.bool true)) := by
  have s1 := specGutterText_sat g hg
  have s2 := implGutterText_sat g hg
  generalize gutText g = x at s1 s2
  refine sat_of_wp hMix tOk Tryd.func4 rfl rfl Tryd.ntmps4 rfl rfl Tryd.results4 (by kernel_rfl) ?_
  conv => whnf
  repeat (first | (refine go_F6 ?_; conv => whnf) | (refine lk_F6 ?_; conv => whnf))
  first | refine ⟨_, _, rfl, sc_F6 (szGutter_sat g hg.len 1048576 (by omega)), ?_⟩ | refine .inl ⟨_, _, rfl, sc_F6 (szGutter_sat g hg.len 1048576 (by omega)), ?_⟩
  conv => whnf
  repeat (first | (refine go_F6 ?_; conv => whnf) | (refine lk_F6 ?_; conv => whnf))
  refine bsplitT (fun h2 => ?_) (fun h2 => ?_)
  all_goals (conv => whnf)
  all_goals (repeat (first | (refine go_F6 ?_; conv => whnf) | (refine lk_F6 ?_; conv => whnf)))
  · first | refine ⟨rfl, _, rfl, ?_⟩ | refine ⟨_, rfl, ?_⟩
    rfl
  have hpl : g.ps.length ≤ 1048576 := by
    have h2' : ¬ szG g 1048576 < 0 := by simpa using h2
    unfold szG at h2'
    split at h2' <;> omega
  first | refine ⟨_, _, rfl, sc_F6 (toGutter_sat g hpl), ?_⟩ | refine .inl ⟨_, _, rfl, sc_F6 (toGutter_sat g hpl), ?_⟩
  conv => whnf
  repeat (first | (refine go_F6 ?_; conv => whnf) | (refine lk_F6 ?_; conv => whnf))
  first | refine ⟨_, _, rfl, sc_F6 (s1), ?_⟩ | refine .inl ⟨_, _, rfl, sc_F6 (s1), ?_⟩
  conv => whnf
  repeat (first | (refine go_F6 ?_; conv => whnf) | (refine lk_F6 ?_; conv => whnf))
  first | refine ⟨_, _, rfl, sc_F6 (toGutter_sat g hpl), ?_⟩ | refine .inl ⟨_, _, rfl, sc_F6 (toGutter_sat g hpl), ?_⟩
  conv => whnf
  repeat (first | (refine go_F6 ?_; conv => whnf) | (refine lk_F6 ?_; conv => whnf))
  first | refine ⟨_, _, rfl, sc_F6 (s2), ?_⟩ | refine .inl ⟨_, _, rfl, sc_F6 (s2), ?_⟩
  conv => whnf
  repeat (first | (refine go_F6 ?_; conv => whnf) | (refine lk_F6 ?_; conv => whnf))
  rw [show (!(x.toList == x.toList)) = false by simp]
  conv => whnf
  repeat (first | (refine go_F6 ?_; conv => whnf) | (refine lk_F6 ?_; conv => whnf))
  first | refine ⟨_, _, rfl, sc_F6 (toGutter_sat g hpl), ?_⟩ | refine .inl ⟨_, _, rfl, sc_F6 (toGutter_sat g hpl), ?_⟩
  conv => whnf
  repeat (first | (refine go_F6 ?_; conv => whnf) | (refine lk_F6 ?_; conv => whnf))
  first | refine ⟨_, _, rfl, sc_F6 (eqGutter_same g hpl), ?_⟩ | refine .inl ⟨_, _, rfl, sc_F6 (eqGutter_same g hpl), ?_⟩
  conv => whnf
  repeat (first | (refine go_F6 ?_; conv => whnf) | (refine lk_F6 ?_; conv => whnf))
  first | refine ⟨rfl, _, rfl, ?_⟩ | refine ⟨_, rfl, ?_⟩
  rfl
end Go.Proofs.YtdbhfobnmlogeaaDoor
