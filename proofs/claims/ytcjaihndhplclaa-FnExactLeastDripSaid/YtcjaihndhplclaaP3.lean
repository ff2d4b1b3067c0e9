import Derived.Test.YtcjaihndhplclaaP2
set_option linter.unusedVariables false
set_option linter.unusedSimpArgs false
/- Contracts: what the laws do with lists of roofs; roofs that are all as told. -/
set_option linter.unusedVariables false
set_option linter.unusedSimpArgs false
namespace Go.V
def idxX {α : Type} (p : α → Bool) (d : α) (l : List α) : Int := match (List.range l.length).find? (fun i => p (l.getD i d)) with | some i => (i : Int) | none => -1
end Go.V
namespace Go.Proofs.Ytcjaihndhplclaa
open Go.V
end Go.Proofs.Ytcjaihndhplclaa
/- Contracts: roofs that are all as told; whether roofs might be. -/
set_option linter.unusedVariables false
set_option linter.unusedSimpArgs false
namespace Go.V
end Go.V
namespace Go.Proofs.Ytcjaihndhplclaa
open Go.V
end Go.Proofs.Ytcjaihndhplclaa
/- Contracts: numbers for roofs that drip alike, both sides. -/
set_option linter.unusedVariables false
set_option linter.unusedSimpArgs false
namespace Go.V
/-- Whether two tables are one. -/
def eqD (f g : Nat → Nat → Int) : Bool := (List.range 136).all fun k => f (k / 17) (k % 17) == g (k / 17) (k % 17)
abbrev Tb := Nat → Nat → Int
def zT : Tb := fun _ _ => 0
@[irreducible] def drsC (ds : List Tb) : List Value := ds.flatMap dripC
theorem drsC_def (ds : List Tb) : drsC ds = ds.flatMap dripC := by unfold drsC; rfl
@[simp] theorem drsC_len (ds : List Tb) : (drsC ds).length = ds.length * 136 := by rw [drsC_def, fm_len dripC_len]
/-- Where a table is met first. -/
def gIx (ds : List Tb) (f : Tb) : Int := idxX (eqD f) zT ds
def gNo (ds : List Tb) (f : Tb) : Nat := if gIx ds f < 0 then ds.length else (gIx ds f).toNat
/-- The tables that were met, and the numbers of the first i roofs. -/
def snL (F : Nat → Tb) : Nat → List Tb
  | 0 => []
  | i + 1 => if gIx (snL F i) (F i) < 0 then snL F i ++ [F i] else snL F i
def goL (F : Nat → Tb) (n : Nat) : List Int := qL (fun i => (gNo (snL F i) (F i) : Nat)) n
@[simp] theorem goL_len (F : Nat → Tb) (n : Nat) : (goL F n).length = n := qL_len _ n
theorem nth_part {a x y : D} : ∀ (q : Nat) (c : D), nth [a, x] q = some c → ∃ c0, nth [a, y] q = some c0 ∧ (c0 = c ∨ (c0 = y ∧ c = x))
  | 0, c, h => ⟨a, rfl, .inl (by simpa [nth] using h)⟩
  | 1, c, h => ⟨y, rfl, .inr ⟨rfl, by simpa [nth] using h.symm⟩⟩
  | n + 2, c, h => by simp [nth] at h
theorem cond_part {a x y : D} {c : D} {b : Bool} {q : Nat} (hc : (bif b then nth [a, x] q else none) = some c) : ∃ c0, (bif b then nth [a, y] q else none) = some c0 ∧ (c0 = c ∨ (c0 = y ∧ c = x)) := by
  cases b
  · cases hc
  · exact nth_part q c hc
theorem lentM_part {a x y : D} {id : Id} {c : D} (hc : lentM [a, x] id = some c) : ∃ c0, lentM [a, y] id = some c0 ∧ (c0 = c ∨ (c0 = y ∧ c = x)) := by
  unfold lentM at hc ⊢
  exact cond_part hc
/-- A nil slice in a variable, told as a part. -/
theorem Lent.part {w : World} {bs : Nat} {l0 : Loc} {a : D} (h : Lent w bs l0 [a, .v (.agg ⟨[.slice none 0 0]⟩)]) : Lent w bs l0 [a, .agg [.v (.slice none 0 0)]] := by
  have key : ∀ id c, lentM [a, .agg [.v (.slice none 0 0)]] id = some c → ∃ c0, lentM [a, .v (.agg ⟨[.slice none 0 0]⟩)] id = some c0 ∧ ((c0 = c) ∨ (c0 = .v (.agg ⟨[.slice none 0 0]⟩) ∧ c = .agg [.v (.slice none 0 0)])) :=
    fun id c hc => lentM_part hc
  refine ⟨h.dom, fun id c hc => ?_, h.range, fun id id' c c' b n n' h1 h2 h3 h4 => ?_⟩
  · obtain ⟨c0, g1, g2⟩ := key id c hc
    obtain ⟨l, xs, q1, q2, q3⟩ := h.mem id c0 g1
    rcases g2 with rfl | ⟨rfl, rfl⟩
    · exact ⟨l, xs, q1, q2, q3⟩
    · refine ⟨l, xs, q1, ?_, q3⟩
      simp only [Rep] at q2
      obtain ⟨q2, _⟩ := q2
      simp only [Value.agg.injEq] at q2
      cases q2
      simp only [Rep, RepL]
      exact ⟨_, rfl, ⟨_, _, rfl, ⟨rfl, rfl⟩, rfl⟩, rfl⟩
  · obtain ⟨c0, g1, _⟩ := key id c h1
    obtain ⟨c0', g1', _⟩ := key id' c' h2
    exact h.inj id id' _ _ b n n' g1 g1' h3 h4
theorem SatM.part {P : Program} {g : FuncId} {args : List D} {a res : D} {ms' : List (Option D)} {news : List D} (h : SatM P g args [a, .agg [.v (.slice none 0 0)]] res ms' news) : SatM P g args [a, .v (.agg ⟨[.slice none 0 0]⟩)] res ms' news :=
  ⟨h.1, fun w vs l0 bs hbs hbl hgl hl hr => h.2 w vs l0 bs hbs hbl hgl hl.part hr⟩
end Go.V
namespace Go.Proofs.Ytcjaihndhplclaa
open Go.V
end Go.Proofs.Ytcjaihndhplclaa
/- Contracts: numbers for roofs that drip alike, both sides, continued. -/
set_option linter.unusedVariables false
set_option linter.unusedSimpArgs false
namespace Go.V
/-- One part that fills a slice of one element. -/
theorem fill1 {s : St} {a zs : List Value} {n : Nat} {x : Operand} (hx : s.ev x = .v (.agg ⟨a⟩)) (ha : a.length = n) (hz : zs.length = n) :
    fillD (fun i => some (i * n, n)) (rep 1 (List.map D.v zs)) (evParts s #[(0, x)]) = some (List.map D.v a) := by
  have e : rep 1 (List.map D.v zs) = List.map D.v zs := by unfold rep; simp
  have ep : evParts s #[(0, x)] = [(0, .v (.agg ⟨a⟩))] := by unfold evParts; simp [hx]
  have h1 : (a.length == n) = true := by simpa using ha
  have h2 : Nat.ble (0 * n + n) (List.map D.v zs).length = true := by rw [Nat.ble_eq]; simp [hz]
  rw [e, ep]
  simp only [fillD, h1, h2, Bool.and_self, cond_true]
  congr 1
  rw [Nat.zero_mul]
  unfold splice
  simp [ha, ← hz]
end Go.V
namespace Go.Proofs.Ytcjaihndhplclaa
open Go.V
end Go.Proofs.Ytcjaihndhplclaa
/- Contracts: numbers for roofs that drip alike; the cell upon which rain has to fall; both sides, and the laws. -/
set_option linter.unusedVariables false
set_option linter.unusedSimpArgs false
namespace Go.V
end Go.V
namespace Go.Proofs.Ytcjaihndhplclaa
open Go.V
end Go.Proofs.Ytcjaihndhplclaa
/- Plain words: years: visits that are needed, each of them; what has to be replaced; tiles that are too old. -/
set_option linter.unusedVariables false
set_option linter.unusedSimpArgs false
namespace Go.V
end Go.V
/- Contracts: a source of choices out of bytes; valid roofs, ages and rain that are drawn from it. -/
set_option linter.unusedVariables false
set_option linter.unusedSimpArgs false
namespace Go.V
/-- Bytes. -/
@[irreducible] def u8C (xs : List Int) : List Value := xs.map (Value.int .u8)
theorem u8C_def (xs : List Int) : u8C xs = xs.map (Value.int .u8) := by unfold u8C; rfl
@[simp] theorem u8C_len (xs : List Int) : (u8C xs).length = xs.length := by simp [u8C_def]
def Bytes (xs : List Int) : Prop := ∀ i, i < xs.length → 0 ≤ ix xs i ∧ ix xs i ≤ 255
/-- The state of a source: how many were read, a number. -/
abbrev Sc := Nat × Int
def nxB (xs : List Int) (σ : Sc) : Int := if σ.1 < xs.length then ix xs σ.1 else 0
def nxS (xs : List Int) (σ : Sc) : Int := IntKind.u64.wrap (IntKind.u64.wrap (IntKind.u64.wrap (σ.2 * 6364136223846793005) + IntKind.u64.wrap (nxB xs σ)) + 1442695040888963407)
def nxt (xs : List Int) (σ : Sc) : Sc := (σ.1 + 1, nxS xs σ)
end Go.V
namespace Go.Proofs.Ytcjaihndhplclaa
open Go.V
end Go.Proofs.Ytcjaihndhplclaa
/- Contracts: valid roofs, ages and rain that are drawn from bytes. -/
set_option linter.unusedVariables false
set_option linter.unusedSimpArgs false
namespace Go.V
def s0 : Sc := (0, 0)
end Go.V
namespace Go.Proofs.Ytcjaihndhplclaa
open Go.V
end Go.Proofs.Ytcjaihndhplclaa
/- Contracts: what the laws ask of lists, of places and of roofs. -/
set_option linter.unusedVariables false
set_option linter.unusedSimpArgs false
namespace Go.V
theorem eqPl_iff {q q' : Pl} (h : q.1 < 8 ∧ q.2 < 8) (h' : q'.1 < 8 ∧ q'.2 < 8) : decide (q = q') = true ↔ [Value.int .i8 q.1, Value.int .i8 q.2] = [Value.int .i8 q'.1, Value.int .i8 q'.2] := by
  rw [decide_eq_true_iff, Prod.ext_iff]
  simp only [List.cons.injEq, Value.int.injEq, true_and, and_true]
  omega
end Go.V
namespace Go.Proofs.Ytcjaihndhplclaa
open Go.V
theorem eqAgg_place {q q' : Pl} (h : q.1 < 8 ∧ q.2 < 8) (h' : q'.1 < 8 ∧ q'.2 < 8) {xs ys : List Value} (hx : xs = [.int .i8 q.1, .int .i8 q.2]) (hy : ys = [.int .i8 q'.1, .int .i8 q'.2]) : EqAgg Try.prog 61 xs ys (decide (q = q')) := by
  subst hx hy
  have hc : Program.cellsOf Try.prog 61 = 2 := by kernel_rfl
  have hc1 : Program.cellsOf Try.prog 22 = 1 := by kernel_rfl
  have hu1 : Program.underlying Try.prog 22 = some (.int .i8) := Try.underlying22
  have wf : ∀ n : Nat, n < 8 → (Lit.int .i8 (n : Int)).wf = true := fun n hn => by
    simp [Lit.wf, IntKind.min, IntKind.max, IntKind.bits, IntKind.signed]; omega
  have fm : ∀ q : Pl, Value.formed Try.prog 61 (.agg ⟨[.int .i8 q.1, .int .i8 q.2]⟩) = true := by
    intro q
    unfold Value.formed
    rw [Try.underlying61]
    simp [hc]
  have cells : ∀ q : Pl, q.1 < 8 ∧ q.2 < 8 → ∀ x ∈ [Value.int .i8 q.1, Value.int .i8 q.2], IntCell x := by
    intro q hq x hx
    simp only [List.mem_cons, List.not_mem_nil, or_false] at hx
    rcases hx with rfl | rfl
    · exact wf _ hq.1
    · exact wf _ hq.2
  have kl : ∀ q : Pl, q.1 < 8 ∧ q.2 < 8 → Program.keyLits Try.prog 2 61 [.int .i8 q.1, .int .i8 q.2] = some (litsOf [.int .i8 q.1, .int .i8 q.2]) := fun q hq => by
    refine keyLits_struct (d := 1) Try.underlying61 (by rw [hc]; rfl) (by kernel_rfl) (fun f hf => ?_) ?_
    · simp only [List.mem_cons, List.not_mem_nil, or_false] at hf
      rcases hf with rfl | rfl
      · rw [hc1]; exact Go.V.keyLits_int (P := Try.prog) (d := 0) (e := 22) (k := .i8) (z := q.1) hu1 (wf _ hq.1)
      · rw [hc1]; exact Go.V.keyLits_int (P := Try.prog) (d := 0) (e := 22) (k := .i8) (z := q.2) hu1 (wf _ hq.2)
    · simp [hc1]
  exact eqAgg_of (m := 3) (by omega) (by kernel_rfl) (by kernel_rfl) (fm q) (fm q') (kl q h) (kl q' h') (cells q h) (cells q' h') (eqPl_iff h h')
end Go.Proofs.Ytcjaihndhplclaa
/- Contracts: places and lists of places compared, lists by sets, roofs mended, what drips behind repairs; both sides. -/
set_option linter.unusedVariables false
set_option linter.unusedSimpArgs false
namespace Go.V
/- Words for the walks of this text: their default arguments are tried where they are used. -/
theorem go_E33 {P Q : Prop} (k : Q) (h : P := by first | exact Nat.le_of_ble_eq_true rfl | exact rfl | decide | omega | (simp [splice]; done) | (constructor <;> omega) | (simp [splice]; omega)) : P ∧ Q := ⟨h, k⟩
theorem lk_E33 {α : Type} {o : Option α} {K : α → Prop} {x : α} (k : K x) (h : o = some x := by first | exact raiA (by omega) | exact raiA' (by omega) | exact roofN (by omega) (by omega) | exact gridN (by omega) (by omega) | exact intA (by omega) | exact intA' (by omega) | exact placeA (by omega) | exact placeB (by omega) | exact placeA' (by omega) | exact placeB' (by omega)) : optK o K := optK_of h k
theorem sc_E33 {P : Program} {g : FuncId} {args args' : List D} {res : D} (h : Sat P g args res) (e : args' = args := by repeat (first | rfl | exact vfull (by first | (simp [splice]; done) | (simp [splice]; omega)) | exact rfull (by first | (simp [splice]; done) | (simp [splice]; omega)) | exact vplace (by simp; done) (by omega) | exact vrow (by simp; done) (by omega) | exact vtiles (by simp) | exact vsplice (by simp) (by simp) | refine ceq ?_ ?_ | refine Eq.trans (vsplice (by first | (simp; done) | (simp; omega)) (by first | (simp; done) | (simp; omega))) ?_)) : Sat P g args' res := Sat.of_eq h e
theorem hold_E33 {P : Prop} (h : P := by (repeat' (first | exact trivial | apply And.intro)) <;> (first | rfl | exact succ8 (by omega) | exact succ64 (by omega) | exact CapOk.fn (by assumption) _ _ | exact vintS (by omega) | exact vintS (by rw [w64 (by omega) (by omega)]; omega) | exact vintS (by rw [w8 (by omega) (by omega)]; omega) | exact vslcS (by omega) | exact vslcS (by simp))) : P := h
theorem okt_E33 {P : Prop} (h : P := by first | omega | (dsimp only; omega) | ((repeat' apply And.intro) <;> omega) | (dsimp only; (repeat' apply And.intro) <;> omega) | trivial) : P := h
end Go.V
namespace Go.V
def orI (x y : Int) : Int := if x ≠ 0 then x else y
end Go.V
namespace Go.Proofs.Ytcjaihndhplclaa
open Go.V
theorem isNaN8_sat (x : Int) : Sat Try.prog 178 [.v (.int .i8 x)] (.v (.bool false)) := by
  refine sat_of_wp hMix tOk Try.func178 rfl rfl Try.ntmps178 rfl rfl Try.results178 (by kernel_rfl) ?_
  conv => whnf
  repeat (first | (refine go_E33 ?_; conv => whnf) | (refine lk_E33 ?_; conv => whnf))
  first | refine ⟨rfl, _, rfl, ?_⟩ | refine ⟨_, rfl, ?_⟩
  skip
  show D.v (.bool false) = D.v (.bool (x != x))
  rw [show (x != x) = false by simp]
theorem compare8_sat (x y : Int) : Sat Try.prog 153 [.v (.int .i8 x), .v (.int .i8 y)] (.v (.int .i64 (cmpI x y))) := by
  refine sat_of_wp hMix tOk Try.func153 rfl rfl Try.ntmps153 rfl rfl Try.results153 (by kernel_rfl) ?_
  conv => whnf
  repeat (first | (refine go_E33 ?_; conv => whnf) | (refine lk_E33 ?_; conv => whnf))
  first | refine ⟨_, _, rfl, sc_E33 (isNaN8_sat x), ?_⟩ | refine .inl ⟨_, _, rfl, sc_E33 (isNaN8_sat x), ?_⟩
  conv => whnf
  repeat (first | (refine go_E33 ?_; conv => whnf) | (refine lk_E33 ?_; conv => whnf))
  first | refine ⟨_, _, rfl, sc_E33 (isNaN8_sat y), ?_⟩ | refine .inl ⟨_, _, rfl, sc_E33 (isNaN8_sat y), ?_⟩
  conv => whnf
  repeat (first | (refine go_E33 ?_; conv => whnf) | (refine lk_E33 ?_; conv => whnf))
  cases h : decide (x < y)
  · conv => whnf
    have h' : ¬ x < y := by simpa using h
    cases h2 : decide (x > y)
    · refine ⟨rfl, _, rfl, ?_⟩
      have h2' : ¬ x > y := by simpa using h2
      simp only [cmpI, if_neg h', if_neg h2']; rfl
    · refine ⟨rfl, _, rfl, ?_⟩
      have h2' : x > y := by simpa using h2
      simp only [cmpI, if_neg h', if_pos h2']; rfl
  · refine ⟨rfl, _, rfl, ?_⟩
    have h' : x < y := by simpa using h
    simp only [cmpI, if_pos h']; rfl
theorem or2_sat (x y : Int) (m : Bool) : Sat Try.prog 59 [.row m 1 (.v (.agg ⟨[.int .i64 x, .int .i64 y]⟩)) 2] (.v (.int .i64 (orI x y))) := by
  refine sat_of_wp hMix tOk Try.func59 rfl rfl Try.ntmps59 rfl rfl Try.results59 (by kernel_rfl) ?_
  conv => whnf
  repeat (first | (refine go_E33 ?_; conv => whnf) | (refine lk_E33 ?_; conv => whnf))
  refine loop_rule (α := Nat) (fun i => [(3, .v (.int .i64 0)), (6, .row m 1 (.v (.agg ⟨[.int .i64 x, .int .i64 y]⟩)) 2), (7, .v (.int .i64 2)), (8, .v (.int .i64 i))]) (fun i => []) (fun i => i ≤ 2 ∧ (0 < i → x = 0) ∧ (1 < i → y = 0)) (fun i => 2 - i) (0) ?_ (sim_of (rn := []) rfl ?_ ?_) ?_
  · exact okt_E33
  · exact hold_E33
  · ((repeat' (first | exact trivial | apply And.intro)) <;> ((first | refine ⟨_, _, rfl, rfl, ?_⟩ ); rfl))
  rintro i ⟨hi, hx, hy⟩
  match i, hi, hx, hy with
  | 0, _, _, _ =>
    conv => whnf
    repeat (first | (refine go_E33 ?_; conv => whnf) | (refine lk_E33 ?_; conv => whnf))
    cases h : (x != 0)
    · have hx0 : x = 0 := by simpa using h
      conv => whnf
      repeat (first | (refine go_E33 ?_; conv => whnf) | (refine lk_E33 ?_; conv => whnf))
      refine ⟨1, ?_, ?_, sim_of (rn := []) rfl ?_ ?_⟩
      · (dsimp only; omega)
      · exact ⟨by omega, fun _ => hx0, fun h => by omega⟩
      · exact hold_E33
      · ((repeat' (first | exact trivial | apply And.intro)) <;> ((first | refine ⟨_, _, rfl, rfl, ?_⟩ ); rfl))
    · have hx0 : x ≠ 0 := by simpa using h
      conv => whnf
      repeat (first | (refine go_E33 ?_; conv => whnf) | (refine lk_E33 ?_; conv => whnf))
      first | refine ⟨rfl, _, rfl, ?_⟩ | refine ⟨_, rfl, ?_⟩
      skip
      unfold orI; rw [if_pos hx0]; rfl
  | 1, _, hx, _ =>
    have hx0 := hx (by omega)
    conv => whnf
    repeat (first | (refine go_E33 ?_; conv => whnf) | (refine lk_E33 ?_; conv => whnf))
    cases h : (y != 0)
    · have hy0 : y = 0 := by simpa using h
      conv => whnf
      repeat (first | (refine go_E33 ?_; conv => whnf) | (refine lk_E33 ?_; conv => whnf))
      refine ⟨2, ?_, ?_, sim_of (rn := []) rfl ?_ ?_⟩
      · (dsimp only; omega)
      · exact ⟨by omega, fun _ => hx0, fun _ => hy0⟩
      · exact hold_E33
      · ((repeat' (first | exact trivial | apply And.intro)) <;> ((first | refine ⟨_, _, rfl, rfl, ?_⟩ ); rfl))
    · conv => whnf
      repeat (first | (refine go_E33 ?_; conv => whnf) | (refine lk_E33 ?_; conv => whnf))
      first | refine ⟨rfl, _, rfl, ?_⟩ | refine ⟨_, rfl, ?_⟩
      skip
      unfold orI; rw [if_neg (by simp [hx0])]; rfl
  | 2, _, hx, hy =>
    have hx0 := hx (by omega)
    have hy0 := hy (by omega)
    conv => whnf
    repeat (first | (refine go_E33 ?_; conv => whnf) | (refine lk_E33 ?_; conv => whnf))
    first | refine ⟨rfl, _, rfl, ?_⟩ | refine ⟨_, rfl, ?_⟩
    skip
    unfold orI; rw [if_neg (by simp [hx0]), hy0]; rfl
theorem comparePlaces_sat (p q : Pl) : Sat Try.prog 114 [plD p, plD q] (.v (.int .i64 (cmP p q))) := by
  refine sat_of_wp hMix tOk Try.func114 rfl rfl Try.ntmps114 rfl rfl Try.results114 (by kernel_rfl) ?_
  conv => whnf
  repeat (first | (refine go_E33 ?_; conv => whnf) | (refine lk_E33 ?_; conv => whnf))
  first | refine ⟨_, _, rfl, sc_E33 (compare8_sat _ _), ?_⟩ | refine .inl ⟨_, _, rfl, sc_E33 (compare8_sat _ _), ?_⟩
  conv => whnf
  repeat (first | (refine go_E33 ?_; conv => whnf) | (refine lk_E33 ?_; conv => whnf))
  first | refine ⟨_, _, rfl, sc_E33 (compare8_sat _ _), ?_⟩ | refine .inl ⟨_, _, rfl, sc_E33 (compare8_sat _ _), ?_⟩
  conv => whnf
  repeat (first | (refine go_E33 ?_; conv => whnf) | (refine lk_E33 ?_; conv => whnf))
  first | refine ⟨_, _, rfl, sc_E33 (or2_sat _ _ false), ?_⟩ | refine .inl ⟨_, _, rfl, sc_E33 (or2_sat _ _ false), ?_⟩
  conv => whnf
  repeat (first | (refine go_E33 ?_; conv => whnf) | (refine lk_E33 ?_; conv => whnf))
  first | refine ⟨rfl, _, rfl, ?_⟩ | refine ⟨_, rfl, ?_⟩
  rfl
set_option maxRecDepth 8000 in
theorem compareFunc_sat (x y : List Pl) (hx : x.length ≤ 1048576) (hy : y.length ≤ 1048576) (m m' : Bool) :
    Sat Try.prog 113 [placesD m x, placesD m' y, .fn (.func 114) [] []] (.v (.int .i64 (cmL x y))) := by
  refine sat_of_wp hMix tOk Try.func113 rfl rfl Try.ntmps113 rfl rfl Try.results113 (by kernel_rfl) ?_
  conv => whnf
  repeat (first | (refine go_E33 ?_; conv => whnf) | (refine lk_E33 ?_; conv => whnf))
  refine loop_rule (α := Nat) (fun i => [(0, placesD m x), (1, placesD m' y), (2, .fn (.func 114) [] []), (11, placesD m x), (12, .v (.int .i64 x.length)), (13, .v (.int .i64 i))]) (fun i => []) (fun i => i ≤ x.length ∧ i ≤ y.length ∧ cmL (x.drop i) (y.drop i) = cmL x y) (fun i => x.length - i) (0) ?_ (sim_of (rn := []) rfl ?_ ?_) ?_
  · exact ⟨by omega, by omega, rfl⟩
  · exact hold_E33
  · ((repeat' (first | exact trivial | apply And.intro)) <;> ((first | refine ⟨_, _, rfl, rfl, ?_⟩ ); rfl))
  rintro i ⟨hi, hi2, he⟩
  conv => whnf
  repeat (first | (refine go_E33 ?_; conv => whnf) | (refine lk_E33 ?_; conv => whnf))
  cases h : decide ((i : Int) < (x.length : Int))
  · have hin : i = x.length := by simp at h; omega
    rw [cmL_short hin hi2] at he
    conv => whnf
    repeat (first | (refine go_E33 ?_; conv => whnf) | (refine lk_E33 ?_; conv => whnf))
    cases h2 : decide ((x.length : Int) < (y.length : Int))
    · rw [if_neg (by simp at h2; omega)] at he
      conv => whnf
      repeat (first | (refine go_E33 ?_; conv => whnf) | (refine lk_E33 ?_; conv => whnf))
      first | refine ⟨rfl, _, rfl, ?_⟩ | refine ⟨_, rfl, ?_⟩
      skip
      rw [← he]; rfl
    · rw [if_pos (by simp at h2; omega)] at he
      conv => whnf
      repeat (first | (refine go_E33 ?_; conv => whnf) | (refine lk_E33 ?_; conv => whnf))
      first | refine ⟨rfl, _, rfl, ?_⟩ | refine ⟨_, rfl, ?_⟩
      skip
      rw [← he]; rfl
  have hin : i < x.length := by simpa using h
  conv => whnf
  repeat (first | (refine go_E33 ?_; conv => whnf) | (refine lk_E33 ?_; conv => whnf))
  cases h2 : decide ((i : Int) ≥ (y.length : Int))
  case true =>
    rw [cmL_long hin (by simp at h2; omega)] at he
    conv => whnf
    repeat (first | (refine go_E33 ?_; conv => whnf) | (refine lk_E33 ?_; conv => whnf))
    first | refine ⟨rfl, _, rfl, ?_⟩ | refine ⟨_, rfl, ?_⟩
    skip
    rw [← he]; rfl
  have hiy : i < y.length := by simp at h2; omega
  rw [cmL_step hin hiy] at he
  conv => whnf
  repeat (first | (refine go_E33 ?_; conv => whnf) | (refine lk_E33 ?_; conv => whnf))
  first | refine ⟨_, _, rfl, sc_E33 (comparePlaces_sat (nthP x i) (nthP y i)), ?_⟩ | refine .inl ⟨_, _, rfl, sc_E33 (comparePlaces_sat (nthP x i) (nthP y i)), ?_⟩
  conv => whnf
  repeat (first | (refine go_E33 ?_; conv => whnf) | (refine lk_E33 ?_; conv => whnf))
  cases h3 : (cmP (nthP x i) (nthP y i) != 0)
  · have h3' : cmP (nthP x i) (nthP y i) = 0 := by simpa using h3
    rw [if_neg (by simp [h3'])] at he
    conv => whnf
    repeat (first | (refine go_E33 ?_; conv => whnf) | (refine lk_E33 ?_; conv => whnf))
    refine ⟨i + 1, ?_, ?_, sim_of (rn := []) rfl ?_ ?_⟩
    · (dsimp only; omega)
    · exact ⟨by omega, by omega, he⟩
    · exact hold_E33
    · ((repeat' (first | exact trivial | apply And.intro)) <;> ((first | refine ⟨_, _, rfl, rfl, ?_⟩ ); rfl))
  · have h3' : cmP (nthP x i) (nthP y i) ≠ 0 := by simpa using h3
    rw [if_pos h3'] at he
    conv => whnf
    repeat (first | (refine go_E33 ?_; conv => whnf) | (refine lk_E33 ?_; conv => whnf))
    first | refine ⟨rfl, _, rfl, ?_⟩ | refine ⟨_, rfl, ?_⟩
    skip
    rw [← he]; rfl
theorem compareLists_sat (x y : List Pl) (hx : x.length ≤ 1048576) (hy : y.length ≤ 1048576) (m m' : Bool) : Sat Try.prog 61 [placesD m x, placesD m' y] (.v (.int .i64 (cmL x y))) := by
  refine sat_of_wp hMix tOk Try.func61 rfl rfl Try.ntmps61 rfl rfl Try.results61 (by kernel_rfl) ?_
  conv => whnf
  repeat (first | (refine go_E33 ?_; conv => whnf) | (refine lk_E33 ?_; conv => whnf))
  first | refine ⟨_, _, rfl, sc_E33 (compareFunc_sat x y hx hy false false), ?_⟩ | refine .inl ⟨_, _, rfl, sc_E33 (compareFunc_sat x y hx hy false false), ?_⟩
  conv => whnf
  repeat (first | (refine go_E33 ?_; conv => whnf) | (refine lk_E33 ?_; conv => whnf))
  first | refine ⟨rfl, _, rfl, ?_⟩ | refine ⟨_, rfl, ?_⟩
  rfl
set_option maxRecDepth 8000 in
theorem l03Less_sat (x y : List Pl) (hx : x.length ≤ 1048576) (hy : y.length ≤ 1048576) (px : AllIn x) (py : AllIn y) (m m' : Bool) : Sat Try.prog 52 [placesD m x, placesD m' y] (.v (.bool (decide (cmL x y < 0)))) := by
  refine sat_of_wp hMix tOk Try.func52 rfl rfl Try.ntmps52 rfl rfl Try.results52 (by kernel_rfl) ?_
  conv => whnf
  repeat (first | (refine go_E33 ?_; conv => whnf) | (refine lk_E33 ?_; conv => whnf))
  refine loop_rule (α := Nat) (fun i => [(0, placesD m x), (1, placesD m' y), (5, .v (.int .i64 i))]) (fun i => []) (fun i => i ≤ x.length ∧ i ≤ y.length ∧ cmL (x.drop i) (y.drop i) = cmL x y) (fun i => x.length - i) (0) ?_ (sim_of (rn := []) rfl ?_ ?_) ?_
  · exact ⟨by omega, by omega, rfl⟩
  · exact hold_E33
  · ((repeat' (first | exact trivial | apply And.intro)) <;> ((first | refine ⟨_, _, rfl, rfl, ?_⟩ ); rfl))
  rintro i ⟨hi, hi2, he⟩
  conv => whnf
  repeat (first | (refine go_E33 ?_; conv => whnf) | (refine lk_E33 ?_; conv => whnf))
  cases h : decide ((i : Int) < (x.length : Int))
  · have hin : i = x.length := by simp at h; omega
    rw [cmL_short hin hi2] at he
    conv => whnf
    repeat (first | (refine go_E33 ?_; conv => whnf) | (refine lk_E33 ?_; conv => whnf))
    first | refine ⟨rfl, _, rfl, ?_⟩ | refine ⟨_, rfl, ?_⟩
    skip
    rw [← he, hin]
    cases h2 : decide ((x.length : Int) < (y.length : Int))
    · rw [if_neg (by simp at h2; omega)]; rfl
    · rw [if_pos (by simp at h2; omega)]; rfl
  have hin : i < x.length := by simpa using h
  conv => whnf
  repeat (first | (refine go_E33 ?_; conv => whnf) | (refine lk_E33 ?_; conv => whnf))
  cases h2 : decide ((i : Int) < (y.length : Int))
  · rw [cmL_long hin (by simp at h2; omega)] at he
    conv => whnf
    repeat (first | (refine go_E33 ?_; conv => whnf) | (refine lk_E33 ?_; conv => whnf))
    first | refine ⟨rfl, _, rfl, ?_⟩ | refine ⟨_, rfl, ?_⟩
    skip
    rw [← he]
    have h2' : ¬ (i : Int) < (y.length : Int) := by simpa using h2
    rw [show decide ((x.length : Int) < (y.length : Int)) = false by simp; omega]
    rfl
  have hiy : i < y.length := by simpa using h2
  rw [cmL_step hin hiy] at he
  have qx := px i hin
  have qy := py i hiy
  conv => whnf
  repeat (first | (refine go_E33 ?_; conv => whnf) | (refine lk_E33 ?_; conv => whnf))
  refine ⟨_, eqAgg_place qx qy (place_load (by simp) hin) (place_load (by simp) hiy), ?_⟩
  cases h3 : decide (nthP x i = nthP y i)
  case true =>
    have h3' : cmP (nthP x i) (nthP y i) = 0 := cmP_zero.2 (by simpa using h3)
    rw [if_neg (by simp [h3'])] at he
    conv => whnf
    repeat (first | (refine go_E33 ?_; conv => whnf) | (refine lk_E33 ?_; conv => whnf))
    refine ⟨i + 1, ?_, ?_, sim_of (rn := []) rfl ?_ ?_⟩
    · (dsimp only; omega)
    · exact ⟨by omega, by omega, he⟩
    · exact hold_E33
    · ((repeat' (first | exact trivial | apply And.intro)) <;> ((first | refine ⟨_, _, rfl, rfl, ?_⟩ ); rfl))
  have h3' : cmP (nthP x i) (nthP y i) ≠ 0 := fun e => by simp [cmP_zero.1 e] at h3
  rw [if_pos h3'] at he
  have hl := cmP_lt (nthP x i) (nthP y i)
  rw [← he]
  conv => whnf
  repeat (first | (refine go_E33 ?_; conv => whnf) | (refine lk_E33 ?_; conv => whnf))
  cases h4 : decide (((nthP x i).1 : Int) < ((nthP y i).1 : Int))
  · have h4' : ¬ ((nthP x i).1 : Int) < ((nthP y i).1 : Int) := by simpa using h4
    conv => whnf
    repeat (first | (refine go_E33 ?_; conv => whnf) | (refine lk_E33 ?_; conv => whnf))
    cases h5 : (((nthP x i).1 : Int) == ((nthP y i).1 : Int))
    · have h5' : ¬ ((nthP x i).1 : Int) = ((nthP y i).1 : Int) := by simpa using h5
      conv => whnf
      repeat (first | (refine go_E33 ?_; conv => whnf) | (refine lk_E33 ?_; conv => whnf))
      first | refine ⟨rfl, _, rfl, ?_⟩ | refine ⟨_, rfl, ?_⟩
      skip
      rw [show decide (cmP (nthP x i) (nthP y i) < 0) = false by simp only [decide_eq_false_iff_not]; omega]; rfl
    · have h5' : ((nthP x i).1 : Int) = ((nthP y i).1 : Int) := by simpa using h5
      conv => whnf
      repeat (first | (refine go_E33 ?_; conv => whnf) | (refine lk_E33 ?_; conv => whnf))
      first | refine ⟨rfl, _, rfl, ?_⟩ | refine ⟨_, rfl, ?_⟩
      skip
      rw [show decide (cmP (nthP x i) (nthP y i) < 0) = decide (((nthP x i).2 : Int) < ((nthP y i).2 : Int)) by rw [decide_eq_decide]; omega]; rfl
  · have h4' : ((nthP x i).1 : Int) < ((nthP y i).1 : Int) := by simpa using h4
    conv => whnf
    repeat (first | (refine go_E33 ?_; conv => whnf) | (refine lk_E33 ?_; conv => whnf))
    first | refine ⟨rfl, _, rfl, ?_⟩ | refine ⟨_, rfl, ?_⟩
    skip
    rw [show decide (cmP (nthP x i) (nthP y i) < 0) = true by simp only [decide_eq_true_eq]; omega]; rfl
end Go.Proofs.Ytcjaihndhplclaa
/- Contracts: roofs mended, what drips behind repairs, lists by sets; both sides. -/
set_option linter.unusedVariables false
set_option linter.unusedSimpArgs false
namespace Go.V
/- Words for the walks of this text: their default arguments are tried where they are used. -/
theorem go_E34 {P Q : Prop} (k : Q) (h : P := by first | exact Nat.le_of_ble_eq_true rfl | exact rfl | decide | omega | (simp [splice]; done) | (constructor <;> omega) | (simp [splice]; omega)) : P ∧ Q := ⟨h, k⟩
theorem lk_E34 {α : Type} {o : Option α} {K : α → Prop} {x : α} (k : K x) (h : o = some x := by first | exact raiA (by omega) | exact raiA' (by omega) | exact roofN (by omega) (by omega) | exact gridN (by omega) (by omega) | exact intA (by omega) | exact intA' (by omega) | exact placeA (by omega) | exact placeB (by omega) | exact placeA' (by omega) | exact placeB' (by omega)) : optK o K := optK_of h k
theorem sc_E34 {P : Program} {g : FuncId} {args args' : List D} {res : D} (h : Sat P g args res) (e : args' = args := by repeat (first | rfl | exact vfull (by first | (simp [splice]; done) | (simp [splice]; omega)) | exact rfull (by first | (simp [splice]; done) | (simp [splice]; omega)) | exact vplace (by simp; done) (by omega) | exact vrow (by simp; done) (by omega) | exact vtiles (by simp) | exact vsplice (by simp) (by simp) | refine ceq ?_ ?_ | refine Eq.trans (vsplice (by first | (simp; done) | (simp; omega)) (by first | (simp; done) | (simp; omega))) ?_)) : Sat P g args' res := Sat.of_eq h e
theorem hold_E34 {P : Prop} (h : P := by (repeat' (first | exact trivial | apply And.intro)) <;> (first | rfl | exact succ8 (by omega) | exact succ64 (by omega) | exact CapOk.fn (by assumption) _ _ | exact vintS (by omega) | exact vintS (by rw [w64 (by omega) (by omega)]; omega) | exact vintS (by rw [w8 (by omega) (by omega)]; omega) | exact vslcS (by omega) | exact vslcS (by simp))) : P := h
theorem okt_E34 {P : Prop} (h : P := by first | omega | (dsimp only; omega) | ((repeat' apply And.intro) <;> omega) | (dsimp only; (repeat' apply And.intro) <;> omega) | trivial) : P := h
end Go.V
namespace Go.V
/-- A row in a variable, as a part. -/
def refP (m : Bool) (l : List Pl) : D := .ref m (.agg [placesD m l]) 0
theorem vrefP {l : List Pl} {n k : Nat} (h : (placesC l).length ≤ n ∧ k = l.length) : D.ref false (.agg [.row false 2 (.v (.agg ⟨((placesC l).drop 0).take n⟩)) k]) 0 = refP false l := by
  rw [List.drop_zero, take_full h.1, h.2]; rfl
theorem croof {zs : List Value} {r : Roof} (hz : zs.length = 67) : some (D.v (.agg ⟨splice zs 0 (List.take 67 (List.drop 0 (roofC r)))⟩)) = some (roofD r) := by
  rw [take_drop0 (xs := roofC r) (by simp), splice_all (by rw [hz]; simp)]; rfl
end Go.V
namespace Go.Proofs.Ytcjaihndhplclaa
open Go.V
theorem mended_sat (r : Roof) (hr : r.In) (l : List Pl) (hl : l.length ≤ 1048576) (hin : AllIn l) (m : Bool) : Sat Try.prog 102 [roofD r, placesD m l] (roofD (mnR r l l.length)) := by
  refine sat_of_wp hMix tOk Try.func102 rfl rfl Try.ntmps102 rfl rfl Try.results102 (by kernel_rfl) ?_
  conv => whnf
  repeat (first | (refine go_E34 ?_; conv => whnf) | (refine lk_E34 ?_; conv => whnf))
  refine loop_rule (α := Nat) (fun i => [(2, .ptr (2, 0, 0) 0), (4, .ptr (4, 0, 0) 0), (7, placesD m l), (8, .v (.int .i64 l.length)), (9, .v (.int .i64 i))]) (fun i => [((2, 0, 0), roofD (mnR r l i)), ((4, 0, 0), cont (.v ti34.zero))]) (fun i => i ≤ l.length) (fun i => l.length - i) (0) ?_ (sim_of (rn := [((2, 0, 0), (2, 0, 0)), ((4, 0, 0), (4, 0, 0))]) rfl ?_ ?_) ?_
  · exact okt_E34
  · exact hold_E34
  · ((repeat' (first | exact trivial | apply And.intro)) <;> ((first | refine ⟨_, _, rfl, rfl, ?_⟩ ); rfl))
  intro i hi
  conv => whnf
  repeat (first | (refine go_E34 ?_; conv => whnf) | (refine lk_E34 ?_; conv => whnf))
  cases h : decide ((i : Int) < (l.length : Int))
  · have hn : i = l.length := by simp at h; omega
    subst hn
    conv => whnf
    repeat (first | (refine go_E34 ?_; conv => whnf) | (refine lk_E34 ?_; conv => whnf))
    first | refine ⟨rfl, _, rfl, ?_⟩ | refine ⟨_, rfl, ?_⟩
    skip
    have e : ∀ zs : List Value, zs.length = 67 → List.take 67 (List.drop 0 (splice zs 0 (List.take 67 (List.drop 0 (roofC (mnR r l l.length)))))) = roofC (mnR r l l.length) := fun zs hz => by
      rw [take_drop0 (xs := roofC (mnR r l l.length)) (by simp), splice_all (by rw [hz]; simp), take_drop0 (by simp)]
    exact congrArg (fun l => D.v (.agg ⟨l⟩)) (e _ rfl).symm
  have hlt : i < l.length := by simpa using h
  have hq := hin i hlt
  conv => whnf
  repeat (first | (refine go_E34 ?_; conv => whnf) | (refine lk_E34 ?_; conv => whnf))
  first | refine ⟨_, _, rfl, sc_E34 (with_sat (mnR r l i) (nthP l i).1 (nthP l i).2 hq.1 hq.2 0 (by omega)), ?_⟩ | refine .inl ⟨_, _, rfl, sc_E34 (with_sat (mnR r l i) (nthP l i).1 (nthP l i).2 hq.1 hq.2 0 (by omega)), ?_⟩
  conv => whnf
  repeat (first | (refine go_E34 ?_; conv => whnf) | (refine lk_E34 ?_; conv => whnf))
  refine ⟨i + 1, ?_, ?_, sim_of (rn := [((2, 0, 0), (2, 0, 0)), ((4, 0, 0), (4, 0, 0))]) rfl ?_ ?_⟩
  · (dsimp only; omega)
  · exact okt_E34
  · exact hold_E34
  · ((repeat' (first | exact trivial | apply And.intro)) <;> ((first | refine ⟨_, _, rfl, rfl, ?_⟩ ); first | rfl | (first | exact csplice (by simp))))
theorem after_sat (r : Roof) (hr : r.In) (hb : Rb r) (w : Nat → Int) (hw : W1 w) (l : List Pl) (hl : l.length ≤ 1048576) (hin : AllIn l) (m : Bool) : Sat Try.prog 47 [roofD r, raiD w, placesD m l] (.v (.int .i64 (afI r w l))) := by
  refine sat_of_wp hMix tOk Try.func47 rfl rfl Try.ntmps47 rfl rfl Try.results47 (by kernel_rfl) ?_
  conv => whnf
  repeat (first | (refine go_E34 ?_; conv => whnf) | (refine lk_E34 ?_; conv => whnf))
  first | refine ⟨_, _, rfl, sc_E34 (mended_sat r hr l hl hin false), ?_⟩ | refine .inl ⟨_, _, rfl, sc_E34 (mended_sat r hr l hl hin false), ?_⟩
  conv => whnf
  repeat (first | (refine go_E34 ?_; conv => whnf) | (refine lk_E34 ?_; conv => whnf))
  first | refine ⟨_, _, rfl, sc_E34 (dripSum_sat (mnR r l l.length) (mnR_in hr l _) (by unfold Rb; simpa using hb) w hw), ?_⟩ | refine .inl ⟨_, _, rfl, sc_E34 (dripSum_sat (mnR r l l.length) (mnR_in hr l _) (by unfold Rb; simpa using hb) w hw), ?_⟩
  conv => whnf
  repeat (first | (refine go_E34 ?_; conv => whnf) | (refine lk_E34 ?_; conv => whnf))
  first | refine ⟨rfl, _, rfl, ?_⟩ | refine ⟨_, rfl, ?_⟩
  rfl
theorem l03After_sat (r : Roof) (hr : r.In) (hb : Rb r) (w : Nat → Int) (hw : W1 w) (l : List Pl) (hl : l.length ≤ 1048576) (hin : AllIn l) (m : Bool) : Sat Try.prog 41 [.ref false (roofD r) 0, .ref false (raiD w) 0, placesD m l] (.v (.int .i64 (afI r w l))) := by
  refine sat_of_wp hMix tOk Try.func41 rfl rfl Try.ntmps41 rfl rfl Try.results41 (by kernel_rfl) ?_
  conv => whnf
  repeat (first | (refine go_E34 ?_; conv => whnf) | (refine lk_E34 ?_; conv => whnf))
  refine loop_rule (α := Nat) (fun i => [(1, .ref false (raiD w) 0), (2, placesD m l), (7, .ptr (7, 0, 0) 0), (8, .v (.int .i64 i))]) (fun i => [((7, 0, 0), roofD (mnR r l i))]) (fun i => i ≤ l.length) (fun i => l.length - i) (0) ?_ (sim_of (rn := [((7, 0, 0), (7, 0, 0))]) rfl ?_ ?_) ?_
  · exact okt_E34
  · exact hold_E34
  · ((repeat' (first | exact trivial | apply And.intro)) <;> ((first | refine ⟨_, _, rfl, rfl, ?_⟩ ); first | rfl | (exact croof rfl)))
  intro i hi
  conv => whnf
  repeat (first | (refine go_E34 ?_; conv => whnf) | (refine lk_E34 ?_; conv => whnf))
  cases h : decide ((i : Int) < (l.length : Int))
  · have hn : i = l.length := by simp at h; omega
    subst hn
    conv => whnf
    repeat (first | (refine go_E34 ?_; conv => whnf) | (refine lk_E34 ?_; conv => whnf))
    first | refine ⟨_, _, rfl, sc_E34 (l02Sum_sat (mnR r l l.length) (mnR_in hr l _) (by unfold Rb; simpa using hb) w hw), ?_⟩ | refine .inl ⟨_, _, rfl, sc_E34 (l02Sum_sat (mnR r l l.length) (mnR_in hr l _) (by unfold Rb; simpa using hb) w hw), ?_⟩
    conv => whnf
    repeat (first | (refine go_E34 ?_; conv => whnf) | (refine lk_E34 ?_; conv => whnf))
    first | refine ⟨rfl, _, rfl, ?_⟩ | refine ⟨_, rfl, ?_⟩
    rfl
  have hlt : i < l.length := by simpa using h
  have hq := hin i hlt
  have e := roof_set (r := mnR r l i) (c := (nthP l i).1) (k := (nthP l i).2) (o := 0 + 3 + ((nthP l i).1 : Int).toNat * 8 + ((nthP l i).2 : Int).toNat * 1) (x := 0) (by simp) hq.1 hq.2
  conv => whnf
  repeat (first | (refine go_E34 ?_; conv => whnf) | (refine lk_E34 ?_; conv => whnf))
  refine ⟨i + 1, ?_, ?_, sim_of (rn := [((7, 0, 0), (7, 0, 0))]) rfl ?_ ?_⟩
  · (dsimp only; omega)
  · exact okt_E34
  · exact hold_E34
  · ((repeat' (first | exact trivial | apply And.intro)) <;> ((first | refine ⟨_, _, rfl, rfl, ?_⟩ ); first | rfl | (exact cset e)))
theorem l03Wrong_sat (r : Roof) (hr : r.In) (hb : Rb r) : Sat Try.prog 50 [.ref false (roofD r) 0] (placesD true (wrP r)) := by
  have hall : Sat Try.prog 104 [.ref false (roofD r) 0] (placesD true (gridP r.w.toNat r.h.toNat)) := by rw [← allP_true]; exact l01All_sat r hr hb
  have hl := gridP_size hb
  have hps := gridP_in (w := r.w.toNat) (h := r.h.toNat) (by omega) (by omega)
  have hres : wrP r = selP (wrB r) (gridP r.w.toNat r.h.toNat) (gridP r.w.toNat r.h.toNat).length := by rw [selP_all]; exact allP_eq r _
  rw [hres]
  generalize gridP r.w.toNat r.h.toNat = ps at *
  refine sat_of_wp hMix tOk Try.func50 rfl rfl Try.ntmps50 rfl rfl Try.results50 (by kernel_rfl) ?_
  conv => whnf
  repeat (first | (refine go_E34 ?_; conv => whnf) | (refine lk_E34 ?_; conv => whnf))
  first | refine ⟨_, _, rfl, sc_E34 (hall), ?_⟩ | refine .inl ⟨_, _, rfl, sc_E34 (hall), ?_⟩
  conv => whnf
  repeat (first | (refine go_E34 ?_; conv => whnf) | (refine lk_E34 ?_; conv => whnf))
  refine loop_rule (α := Nat) (fun i => [(0, .ref false (roofD r) 0), (3, .slc true 2 (28, 0, 0) 0 (selP (wrB r) ps i).length), (4, .slc true 2 (8, 0, 0) 0 ps.length), (5, .v (.int .i64 i))]) (fun i => [((8, 0, 0), .v (.agg ⟨placesC ps⟩)), ((28, 0, 0), .v (.agg ⟨placesC (selP (wrB r) ps i)⟩))]) (fun i => i ≤ ps.length) (fun i => ps.length - i) (0) ?_ (sim_of (rn := [((8, 0, 0), (8, 0, 0)), ((28, 0, 0), (6, 0, 0))]) rfl ?_ ?_) ?_
  · exact okt_E34
  · exact hold_E34
  · ((repeat' (first | exact trivial | apply And.intro)) <;> ((first | refine ⟨_, _, rfl, rfl, ?_⟩ ); rfl))
  intro i hi
  conv => whnf
  repeat (first | (refine go_E34 ?_; conv => whnf) | (refine lk_E34 ?_; conv => whnf))
  cases h : decide ((i : Int) < (ps.length : Int))
  · have hin : i = ps.length := by simp at h; omega
    subst hin
    conv => whnf
    repeat (first | (refine go_E34 ?_; conv => whnf) | (refine lk_E34 ?_; conv => whnf))
    first | refine ⟨rfl, _, rfl, ?_⟩ | refine ⟨_, rfl, ?_⟩
    rfl
  have hin : i < ps.length := by simpa using h
  have hqi := hps i hin
  have hsl := selP_len (wrB r) ps i
  conv => whnf
  repeat (first | (refine go_E34 ?_; conv => whnf) | (refine lk_E34 ?_; conv => whnf))
  first | refine ⟨_, _, rfl, sc_E34 (l01At_sat r hr (nthP ps i).1 (nthP ps i).2 hqi.1 hqi.2), ?_⟩ | refine .inl ⟨_, _, rfl, sc_E34 (l01At_sat r hr (nthP ps i).1 (nthP ps i).2 hqi.1 hqi.2), ?_⟩
  conv => whnf
  repeat (first | (refine go_E34 ?_; conv => whnf) | (refine lk_E34 ?_; conv => whnf))
  cases hp : (r.t (nthP ps i).1 (nthP ps i).2 != 0)
  · have hw0 : wrB r (nthP ps i).1 (nthP ps i).2 = false := hp
    conv => whnf
    repeat (first | (refine go_E34 ?_; conv => whnf) | (refine lk_E34 ?_; conv => whnf))
    rw [← selP_no hin hw0]
    refine ⟨i + 1, ?_, ?_, sim_of (rn := [((8, 0, 0), (8, 0, 0)), ((28, 0, 0), (28, 0, 0))]) rfl ?_ ?_⟩
    · (dsimp only; omega)
    · exact okt_E34
    · exact hold_E34
    · ((repeat' (first | exact trivial | apply And.intro)) <;> ((first | refine ⟨_, _, rfl, rfl, ?_⟩ ); rfl))
  have hw1 : wrB r (nthP ps i).1 (nthP ps i).2 = true := hp
  have e1 := selP_yes hin hw1
  have e2 : placesC (selP (wrB r) ps i) ++ [.int .i8 (nthP ps i).1, .int .i8 (nthP ps i).2] = placesC (selP (wrB r) ps (i + 1)) := by rw [e1, placesC_append]; rfl
  have e3 : (selP (wrB r) ps i).length + 1 = (selP (wrB r) ps (i + 1)).length := by rw [e1, List.length_append]; rfl
  conv => whnf
  repeat (first | (refine go_E34 ?_; conv => whnf) | (refine lk_E34 ?_; conv => whnf))
  have e0 : List.take ti61.size (List.drop (0 + (i : Int).toNat * ti61.size) ({ toList := placesC ps } : Array Value).toList) = [.int .i8 (nthP ps i).1, .int .i8 (nthP ps i).2] := place_load (by simp) hin
  rw [e0]
  conv => whnf
  repeat (first | (refine go_E34 ?_; conv => whnf) | (refine lk_E34 ?_; conv => whnf))
  refine ⟨i + 1, ?_, ?_, sim_of (rn := [((8, 0, 0), (8, 0, 0)), ((28, 0, 0), (28, 1, 0))]) rfl ?_ ?_⟩
  · (dsimp only; omega)
  · exact okt_E34
  · exact hold_E34
  · ((repeat' (first | exact trivial | apply And.intro)) <;> ((first | refine ⟨_, _, rfl, rfl, ?_⟩ ); first | rfl | (exact cset e2)))
theorem l03Places0_sat (r : Roof) (hr : r.In) (w : Nat → Int) (hw : RaiIn w) (b m : Bool) : Sat Try.prog 49 [.ref false (roofD r) 0, .ref false (raiD w) 0, placesD m [], .v (.bool b)] (.v (.int .i64 (rnK r w b))) := by
  refine sat_of_wp hMix tOk Try.func49 rfl rfl Try.ntmps49 rfl rfl Try.results49 (by kernel_rfl) ?_
  conv => whnf
  repeat (first | (refine go_E34 ?_; conv => whnf) | (refine lk_E34 ?_; conv => whnf))
  first | refine ⟨_, _, rfl, sc_E34 (l02Ok_sat r hr w hw), ?_⟩ | refine .inl ⟨_, _, rfl, sc_E34 (l02Ok_sat r hr w hw), ?_⟩
  conv => whnf
  repeat (first | (refine go_E34 ?_; conv => whnf) | (refine lk_E34 ?_; conv => whnf))
  cases hO : okN r w
  · conv => whnf
    repeat (first | (refine go_E34 ?_; conv => whnf) | (refine lk_E34 ?_; conv => whnf))
    rw [show rnK r w b = 1 by unfold rnK; rw [hO]; rfl]
    first | refine ⟨rfl, _, rfl, ?_⟩ | refine ⟨_, rfl, ?_⟩
    rfl
  conv => whnf
  repeat (first | (refine go_E34 ?_; conv => whnf) | (refine lk_E34 ?_; conv => whnf))
  refine loop_rule (α := Nat) (fun i => [(2, placesD m []), (3, .v (.bool b)), (9, .v (.int .i64 0))]) (fun i => []) (fun i => i ≤ 0) (fun i => 0 - i) (0) ?_ (sim_of (rn := []) rfl ?_ ?_) ?_
  · exact okt_E34
  · exact hold_E34
  · ((repeat' (first | exact trivial | apply And.intro)) <;> ((first | refine ⟨_, _, rfl, rfl, ?_⟩ ); rfl))
  intro i hi
  conv => whnf
  repeat (first | (refine go_E34 ?_; conv => whnf) | (refine lk_E34 ?_; conv => whnf))
  cases b
  · conv => whnf
    repeat (first | (refine go_E34 ?_; conv => whnf) | (refine lk_E34 ?_; conv => whnf))
    rw [show rnK r w false = 2 by unfold rnK; rw [hO]; rfl]
    first | refine ⟨rfl, _, rfl, ?_⟩ | refine ⟨_, rfl, ?_⟩
    rfl
  · conv => whnf
    repeat (first | (refine go_E34 ?_; conv => whnf) | (refine lk_E34 ?_; conv => whnf))
    rw [show rnK r w true = 0 by unfold rnK; rw [hO]; rfl]
    first | refine ⟨rfl, _, rfl, ?_⟩ | refine ⟨_, rfl, ?_⟩
    rfl
theorem l03Chosen_sat (ws : List Pl) (hl : ws.length ≤ 64) (s : Nat) (hs : s < 4294967296) (m : Bool) : Sat Try.prog 51 [placesD m ws, .v (.int .i64 s)] (placesD true (chP ws s ws.length)) := by
  refine sat_of_wp hMix tOk Try.func51 rfl rfl Try.ntmps51 rfl rfl Try.results51 (by kernel_rfl) ?_
  conv => whnf
  repeat (first | (refine go_E34 ?_; conv => whnf) | (refine lk_E34 ?_; conv => whnf))
  refine loop_rule (α := Nat) (fun i => [(0, placesD m ws), (1, .v (.int .i64 s)), (5, .slc true 2 (26, 0, 0) 0 (chP ws s i).length), (6, .v (.int .i64 i))]) (fun i => [((26, 0, 0), .v (.agg ⟨placesC (chP ws s i)⟩))]) (fun i => i ≤ ws.length) (fun i => ws.length - i) (0) ?_ (sim_of (rn := [((26, 0, 0), (7, 0, 0))]) rfl ?_ ?_) ?_
  · exact okt_E34
  · exact hold_E34
  · ((repeat' (first | exact trivial | apply And.intro)) <;> ((first | refine ⟨_, _, rfl, rfl, ?_⟩ ); rfl))
  intro i hi
  have hcl := chP_len ws s i
  conv => whnf
  repeat (first | (refine go_E34 ?_; conv => whnf) | (refine lk_E34 ?_; conv => whnf))
  cases h : decide ((i : Int) < (ws.length : Int))
  · have hin : i = ws.length := by simp at h; omega
    subst hin
    conv => whnf
    repeat (first | (refine go_E34 ?_; conv => whnf) | (refine lk_E34 ?_; conv => whnf))
    first | refine ⟨rfl, _, rfl, ?_⟩ | refine ⟨_, rfl, ?_⟩
    rfl
  have hin : i < ws.length := by simpa using h
  have hbit := bit64_eq hs (show i < 64 by omega)
  unfold bit64 at hbit
  conv => whnf
  repeat (first | (refine go_E34 ?_; conv => whnf) | (refine lk_E34 ?_; conv => whnf))
  rw [show IntKind.u64.wrap (i : Int) = (i : Int) from wu64 (by omega) (by omega)]
  rw [hbit]
  cases hp : s.testBit i
  · conv => whnf
    repeat (first | (refine go_E34 ?_; conv => whnf) | (refine lk_E34 ?_; conv => whnf))
    rw [← chP_no hp]
    refine ⟨i + 1, ?_, ?_, sim_of (rn := [((26, 0, 0), (26, 0, 0))]) rfl ?_ ?_⟩
    · (dsimp only; omega)
    · exact okt_E34
    · exact hold_E34
    · ((repeat' (first | exact trivial | apply And.intro)) <;> ((first | refine ⟨_, _, rfl, rfl, ?_⟩ ); rfl))
  have e1 := chP_yes (ws := ws) hp
  have e2 : placesC (chP ws s i) ++ [.int .i8 (nthP ws i).1, .int .i8 (nthP ws i).2] = placesC (chP ws s (i + 1)) := by rw [e1, placesC_append]; rfl
  have e3 : (chP ws s i).length + 1 = (chP ws s (i + 1)).length := by rw [e1, List.length_append]; rfl
  conv => whnf
  repeat (first | (refine go_E34 ?_; conv => whnf) | (refine lk_E34 ?_; conv => whnf))
  have e0 : List.take ti61.size (List.drop ((i : Int).toNat * ti61.size) ({ toList := placesC ws } : Array Value).toList) = [.int .i8 (nthP ws i).1, .int .i8 (nthP ws i).2] := place_load (by simp) hin
  rw [e0]
  conv => whnf
  repeat (first | (refine go_E34 ?_; conv => whnf) | (refine lk_E34 ?_; conv => whnf))
  refine ⟨i + 1, ?_, ?_, sim_of (rn := [((26, 0, 0), (26, 1, 0))]) rfl ?_ ?_⟩
  · (dsimp only; omega)
  · exact okt_E34
  · exact hold_E34
  · ((repeat' (first | exact trivial | apply And.intro)) <;> ((first | refine ⟨_, _, rfl, rfl, ?_⟩ ); first | rfl | (exact cset e2)))
theorem repairs1_sat (ws : List Pl) (hl : ws.length ≤ 64) (s : Nat) (hs : s < 4294967296) : Sat Try.prog 111 [.v (.int .i64 s), refP false ws] (placesD true (chP ws s ws.length)) := by
  refine satN_of_wp hMix tOk Try.func111 rfl rfl Try.ntmps111 rfl rfl Try.results111 (by kernel_rfl) ?_
  conv => whnf
  repeat (first | (refine go_E34 ?_; conv => whnf) | (refine lk_E34 ?_; conv => whnf))
  refine loop_rule (α := Nat) (fun i => [(0, .v (.int .i64 s)), (4, .slc true 2 (22, 0, 0) 0 (chP ws s i).length), (7, placesD false ws), (8, .v (.int .i64 ws.length)), (9, .v (.int .i64 i))]) (fun i => [((22, 0, 0), .v (.agg ⟨placesC (chP ws s i)⟩))]) (fun i => i ≤ ws.length) (fun i => ws.length - i) (0) ?_ (sim_of (rn := [((22, 0, 0), nilId)]) rfl ?_ ?_) ?_
  · exact okt_E34
  · exact hold_E34
  · ((repeat' (first | exact trivial | apply And.intro)) <;> ((first | refine ⟨_, _, rfl, rfl, ?_⟩ ); rfl))
  intro i hi
  have hcl := chP_len ws s i
  conv => whnf
  repeat (first | (refine go_E34 ?_; conv => whnf) | (refine lk_E34 ?_; conv => whnf))
  cases h : decide ((i : Int) < (ws.length : Int))
  · have hin : i = ws.length := by simp at h; omega
    subst hin
    conv => whnf
    repeat (first | (refine go_E34 ?_; conv => whnf) | (refine lk_E34 ?_; conv => whnf))
    first | refine ⟨rfl, _, rfl, [_], rfl, ?_, rfl⟩ | refine ⟨_, rfl, [_], rfl, ?_, rfl⟩
    ((repeat' (first | exact trivial | apply And.intro)) <;> first | exact .inl rfl | exact .inr ⟨rfl, rfl⟩)
  have hin : i < ws.length := by simpa using h
  have hbit := bit64_eq hs (show i < 64 by omega)
  unfold bit64 at hbit
  conv => whnf
  repeat (first | (refine go_E34 ?_; conv => whnf) | (refine lk_E34 ?_; conv => whnf))
  rw [hbit]
  cases hp : s.testBit i
  · conv => whnf
    repeat (first | (refine go_E34 ?_; conv => whnf) | (refine lk_E34 ?_; conv => whnf))
    rw [← chP_no hp]
    refine ⟨i + 1, ?_, ?_, sim_of (rn := [((22, 0, 0), (22, 0, 0))]) rfl ?_ ?_⟩
    · (dsimp only; omega)
    · exact okt_E34
    · exact hold_E34
    · ((repeat' (first | exact trivial | apply And.intro)) <;> ((first | refine ⟨_, _, rfl, rfl, ?_⟩ ); rfl))
  have e1 := chP_yes (ws := ws) hp
  have e2 : placesC (chP ws s i) ++ [.int .i8 (nthP ws i).1, .int .i8 (nthP ws i).2] = placesC (chP ws s (i + 1)) := by rw [e1, placesC_append]; rfl
  have e3 : (chP ws s i).length + 1 = (chP ws s (i + 1)).length := by rw [e1, List.length_append]; rfl
  conv => whnf
  repeat (first | (refine go_E34 ?_; conv => whnf) | (refine lk_E34 ?_; conv => whnf))
  rw [fill1 (a := [.int .i8 (nthP ws i).1, .int .i8 (nthP ws i).2]) (s := _) ?hx (by rfl) (by rfl)]
  case hx =>
    show D.v (.agg ⟨List.take 2 (List.drop 0 (splice [Value.int .i8 0, .int .i8 0] 0 (List.take 2 (List.drop ((i : Int).toNat * 2) (placesC ws)))))⟩) = _
    rw [place_load (by simp) hin]; rfl
  dsimp only
  conv => whnf
  repeat (first | (refine go_E34 ?_; conv => whnf) | (refine lk_E34 ?_; conv => whnf))
  refine ⟨i + 1, ?_, ?_, sim_of (rn := [((22, 0, 0), (22, 1, 0))]) rfl ?_ ?_⟩
  · (dsimp only; omega)
  · exact okt_E34
  · exact hold_E34
  · ((repeat' (first | exact trivial | apply And.intro)) <;> ((first | refine ⟨_, _, rfl, rfl, ?_⟩ ); first | rfl | (exact cset e2)))
theorem repairCode_sat (r : Roof) (hr : r.In) (w : Nat → Int) (hw : RaiIn w) (b : Bool) : Sat Try.prog 53 [roofD r, raiD w, .v (.bool b)] (.v (.int .i64 (if rnK r w b = 0 ∧ 10 < (wrP r).length then 3 else rnK r w b))) := by
  refine sat_of_wp hMix tOk Try.func53 rfl rfl Try.ntmps53 rfl rfl Try.results53 (by kernel_rfl) ?_
  conv => whnf
  repeat (first | (refine go_E34 ?_; conv => whnf) | (refine lk_E34 ?_; conv => whnf))
  first | refine ⟨_, _, rfl, sc_E34 (rainCode_sat r hr w hw b), ?_⟩ | refine .inl ⟨_, _, rfl, sc_E34 (rainCode_sat r hr w hw b), ?_⟩
  conv => whnf
  repeat (first | (refine go_E34 ?_; conv => whnf) | (refine lk_E34 ?_; conv => whnf))
  cases h : (rnK r w b == 0)
  · have h' : ¬ rnK r w b = 0 := by simpa using h
    rw [if_neg (by simp [h'])]
    conv => whnf
    repeat (first | (refine go_E34 ?_; conv => whnf) | (refine lk_E34 ?_; conv => whnf))
    first | refine ⟨rfl, _, rfl, ?_⟩ | refine ⟨_, rfl, ?_⟩
    rfl
  have h' : rnK r w b = 0 := by simpa using h
  have hO : okN r w = true := by
    unfold rnK at h'
    split at h'
    · assumption
    · cases h'
  have hb := okR_bounds (okN_R hO)
  conv => whnf
  repeat (first | (refine go_E34 ?_; conv => whnf) | (refine lk_E34 ?_; conv => whnf))
  first | refine ⟨_, _, rfl, sc_E34 (wrong_sat r hr hb), ?_⟩ | refine .inl ⟨_, _, rfl, sc_E34 (wrong_sat r hr hb), ?_⟩
  conv => whnf
  repeat (first | (refine go_E34 ?_; conv => whnf) | (refine lk_E34 ?_; conv => whnf))
  cases h2 : decide (((wrP r).length : Int) > 10)
  · rw [if_neg (by simp at h2; omega)]
    conv => whnf
    repeat (first | (refine go_E34 ?_; conv => whnf) | (refine lk_E34 ?_; conv => whnf))
    first | refine ⟨rfl, _, rfl, ?_⟩ | refine ⟨_, rfl, ?_⟩
    rfl
  · rw [if_pos ⟨h', by simp at h2; omega⟩]
    conv => whnf
    repeat (first | (refine go_E34 ?_; conv => whnf) | (refine lk_E34 ?_; conv => whnf))
    first | refine ⟨rfl, _, rfl, ?_⟩ | refine ⟨_, rfl, ?_⟩
    rfl
end Go.Proofs.Ytcjaihndhplclaa
/- Contracts: lists of lists of places: made, chosen from, the first of them. -/
set_option linter.unusedVariables false
set_option linter.unusedSimpArgs false
namespace Go.V
/- Words for the walks of this text: their default arguments are tried where they are used. -/
theorem go_E35 {P Q : Prop} (k : Q) (h : P := by first | exact Nat.le_of_ble_eq_true rfl | exact rfl | decide | omega | (simp [splice]; done) | (constructor <;> omega) | (simp [splice]; omega)) : P ∧ Q := ⟨h, k⟩
theorem lk_E35 {α : Type} {o : Option α} {K : α → Prop} {x : α} (k : K x) (h : o = some x := by first | exact raiA (by omega) | exact raiA' (by omega) | exact roofN (by omega) (by omega) | exact gridN (by omega) (by omega) | exact intA (by omega) | exact intA' (by omega) | exact placeA (by omega) | exact placeB (by omega) | exact placeA' (by omega) | exact placeB' (by omega)) : optK o K := optK_of h k
theorem sc_E35 {P : Program} {g : FuncId} {args args' : List D} {res : D} (h : Sat P g args res) (e : args' = args := by repeat (first | rfl | exact vfull (by first | (simp [splice]; done) | (simp [splice]; omega)) | exact rfull (by first | (simp [splice]; done) | (simp [splice]; omega)) | exact vplace (by simp; done) (by omega) | exact vrow (by simp; done) (by omega) | exact vtiles (by simp) | exact vsplice (by simp) (by simp) | refine ceq ?_ ?_ | refine Eq.trans (vsplice (by first | (simp; done) | (simp; omega)) (by first | (simp; done) | (simp; omega))) ?_)) : Sat P g args' res := Sat.of_eq h e
theorem leaf_E35 {P : Prop} (h : P := by first | rfl | exact succ8 (by omega) | exact succ64 (by omega) | exact CapOk.fn (by assumption) _ _ | exact vintS (by omega) | exact vintS (by rw [w64 (by omega) (by omega)]; omega) | exact vintS (by rw [w8 (by omega) (by omega)]; omega) | exact vslcS (by omega) | exact vslcS (by simp)) : P := h
theorem okt_E35 {P : Prop} (h : P := by first | omega | (dsimp only; omega) | ((repeat' apply And.intro) <;> omega) | (dsimp only; (repeat' apply And.intro) <;> omega) | trivial) : P := h
end Go.V
namespace Go.V
/-- The cells of a list of lists of places. -/
def rwC : List (List Pl) → D
  | [] => .v (.agg ⟨[]⟩)
  | l :: r => .agg (List.map (placesD true) (l :: r))
def llD (m : Bool) (ls : List (List Pl)) : D := .row m 1 (rwC ls) ls.length
theorem mapO_self {f : D → Option D} {l : List (List Pl)} (h : ∀ x, f (placesD true x) = some (placesD true x)) : mapO f (l.map (placesD true)) = some (l.map (placesD true)) := by
  induction l with
  | nil => rfl
  | cons x l ih => rw [List.map_cons, mapO, h, ih]
theorem rwC_deep {bad : List Id} {m : Id → Option D} (ls : List (List Pl)) : deep true bad m depth (rwC ls) = some (rwC ls) := by
  cases ls with
  | nil => rfl
  | cons l r =>
    show deep true bad m (11 + 1) (.agg (List.map (placesD true) (l :: r))) = _
    exact deepAgg (mapO_self fun x => rfl)
theorem rwC_ren {rn : Rn} (ls : List (List Pl)) : renD rn depth (rwC ls) = some (rwC ls) := by
  cases ls with
  | nil => rfl
  | cons l r =>
    show renD rn (11 + 1) (.agg (List.map (placesD true) (l :: r))) = _
    exact renAgg (mapO_self fun x => rfl)
theorem rwC_snoc (ls : List (List Pl)) (l : List Pl) : rwC (ls ++ [l]) = .agg (ls.map (placesD true) ++ [placesD true l]) := by
  cases ls with
  | nil => rfl
  | cons x r => show D.agg (List.map (placesD true) ((x :: r) ++ [l])) = _; rw [List.map_append]; rfl
/-- A list that was just made, at the end of others, told as one of them. -/
theorem rwC_frz {id : Id} {live : Id → Bool} (ls : List (List Pl)) (l : List Pl) :
    D.agg (List.map (frzD id (placesC l) live 11) (ls.map (placesD true) ++ [.slc true 2 id 0 l.length])) = rwC (ls ++ [l]) := by
  rw [rwC_snoc, List.map_append, List.map_map]
  congr 2
  show [frzD id (placesC l) live (10 + 1) (.slc true 2 id 0 l.length)] = _
  rw [frzD, idEq_iff.2 rfl]
  rfl
theorem rwC_cat (ls : List (List Pl)) (ds : List D) : catC (rwC ls) (.agg ds) = some (.agg (ls.map (placesD true) ++ ds)) := by
  cases ls <;> rfl
theorem frzL {id : Id} {live : Id → Bool} (f : Nat → List Pl) (i : Nat) :
    some (D.agg (List.map (frzD id (placesC (f i)) live 11) (((List.range i).map f).map (placesD true) ++ [.slc true 2 id 0 (f i).length]))) = some (rwC ((List.range (i + 1)).map f)) := by
  rw [rwC_frz, List.range_succ, List.map_append]; rfl
/-- A list of lists, handed back. -/
theorem rwC_exp {id : Id} (hid : Nat.ble lentKey id.1 = false) {m : Id → Option D} {ls : List (List Pl)} {n : Nat} (hm : m id = some (rwC ls)) (hn : ls.length = n) : mapO (expD [id] m) [.slc true 1 id 0 n] = some [llD true ls] := by
  subst hn
  simp only [mapO, expD, hid, cond_false, hm, rwC_deep]
  rfl
end Go.V
namespace Go.Proofs.Ytcjaihndhplclaa
open Go.V
set_option maxRecDepth 8000 in
theorem eachPP_sat {g : Nat} {caps : List D} {f : Nat → List Pl} (n : Nat) (hn : n ≤ 4096) (hc : CapOk caps) (hcf : ∀ id xs live, caps.map (frzD id xs live 11) = caps) (hg : ∀ i, i < n → Sat Try.prog g (.v (.int .i64 i) :: caps) (placesD true (f i))) (m : Bool) :
    Sat Try.prog 109 [intsD m (upL n), .fn (.func g) [] caps] (llD true ((List.range n).map f)) := by
  have hul := upL_len n
  refine satS_of_wp hMix tOk Try.func109 rfl rfl Try.ntmps109 rfl rfl Try.results109 (by kernel_rfl) ?_
  conv => whnf
  repeat (first | (refine go_E35 ?_; conv => whnf) | (refine lk_E35 ?_; conv => whnf))
  refine loop_ruleS (α := Nat) (fun i => [(1, .fn (.func g) [] caps), (5, .slc true 1 (19, 0, 0) 0 i), (8, intsD m (upL n)), (9, .v (.int .i64 n)), (10, .v (.int .i64 i))]) (fun i => [((19, 0, 0), rwC ((List.range i).map f))]) (fun i => i ≤ n) (fun i => n - i) (0) ?_ (sim_ofS rfl (rn := [((19, 0, 0), nilId)]) rfl ?_ ?_) ?_
  · exact okt_E35
  · ((repeat' (first | exact trivial | apply And.intro)) <;> (first | rfl | (first | exact hc.fn _ _ | exact vintS (by rw [hul])) | exact leaf_E35))
  · ((repeat' (first | exact trivial | apply And.intro)) <;> ((first | refine ⟨_, _, rfl, rfl, ?_⟩ | refine ⟨_, _, rfl, rwC_ren _, ?_⟩); rfl))
  intro i hi
  conv => whnf
  repeat (first | (refine go_E35 ?_; conv => whnf) | (refine lk_E35 ?_; conv => whnf))
  cases h : decide ((i : Int) < (n : Int))
  · have hin : i = n := by simp at h; omega
    subst hin
    conv => whnf
    repeat (first | (refine go_E35 ?_; conv => whnf) | (refine lk_E35 ?_; conv => whnf))
    left
    conv => whnf
    refine ⟨rfl, _, rwC_exp rfl rfl (by simp), [_], rfl, ?_, rfl⟩
    exact ⟨.inl rfl, trivial⟩
  have hin : i < n := by simpa using h
  conv => whnf
  repeat (first | (refine go_E35 ?_; conv => whnf) | (refine lk_E35 ?_; conv => whnf))
  rw [upL_ix hin]
  first | refine ⟨_, _, CapOk.one (by assumption) rfl, sc_E35 (hg i hin), ?_⟩ | refine .inl ⟨_, _, CapOk.one (by assumption) rfl, sc_E35 (hg i hin), ?_⟩
  conv => whnf
  repeat (first | (refine go_E35 ?_; conv => whnf) | (refine lk_E35 ?_; conv => whnf))
  rw [rwC_cat]
  conv => whnf
  repeat (first | (refine go_E35 ?_; conv => whnf) | (refine lk_E35 ?_; conv => whnf))
  refine ⟨i + 1, ?_, ?_, Sim.trans (frz_sim (id := (17, 1, 0)) (xs := placesC (f i)) rfl rfl rfl) (sim_ofS rfl (rn := [((19, 0, 0), (19, 1, 0))]) rfl ?_ ?_)⟩
  · (dsimp only; omega)
  · exact okt_E35
  · ((repeat' (first | exact trivial | apply And.intro)) <;> (first | rfl | (exact (hc.fn _ _).trans (congrArg (fun l => some (D.fn (.func g) [] l)) (hcf _ _ _).symm)) | exact leaf_E35))
  · ((repeat' (first | exact trivial | apply And.intro)) <;> ((first | refine ⟨_, _, rfl, rfl, ?_⟩ | refine ⟨_, _, rfl, rwC_ren _, ?_⟩); first | (exact frzL f i) | rfl))
end Go.Proofs.Ytcjaihndhplclaa
/- Contracts: all repairs; those that keep a bound; the first of them. -/
set_option linter.unusedVariables false
set_option linter.unusedSimpArgs false
namespace Go.V
/- Words for the walks of this text: their default arguments are tried where they are used. -/
theorem go_E36 {P Q : Prop} (k : Q) (h : P := by first | exact Nat.le_of_ble_eq_true rfl | exact rfl | decide | omega | (simp [splice]; done) | (constructor <;> omega) | (simp [splice]; omega)) : P ∧ Q := ⟨h, k⟩
theorem lk_E36 {α : Type} {o : Option α} {K : α → Prop} {x : α} (k : K x) (h : o = some x := by first | exact raiA (by omega) | exact raiA' (by omega) | exact roofN (by omega) (by omega) | exact gridN (by omega) (by omega) | exact intA (by omega) | exact intA' (by omega) | exact placeA (by omega) | exact placeB (by omega) | exact placeA' (by omega) | exact placeB' (by omega) | exact llA (by omega) | exact llA' (by omega) | exact llB (by omega) | exact llB0 (by omega)) : optK o K := optK_of h k
theorem sc_E36 {P : Program} {g : FuncId} {args args' : List D} {res : D} (h : Sat P g args res) (e : args' = args := by repeat (first | rfl | exact vfull (by first | (simp [splice]; done) | (simp [splice]; omega)) | exact rfull (by first | (simp [splice]; done) | (simp [splice]; omega)) | exact vfnP (by constructor <;> simp) | exact vrefP (by constructor <;> simp) | exact vplace (by simp; done) (by omega) | exact vrow (by simp; done) (by omega) | exact vtiles (by simp) | exact vsplice (by simp) (by simp) | refine ceq ?_ ?_ | refine Eq.trans (vsplice (by first | (simp; done) | (simp; omega)) (by first | (simp; done) | (simp; omega))) ?_)) : Sat P g args' res := Sat.of_eq h e
theorem leaf_E36 {P : Prop} (h : P := by first | rfl | exact succ8 (by omega) | exact succ64 (by omega) | exact CapOk.fn (by assumption) _ _ | exact vintS (by omega) | exact vintS (by rw [w64 (by omega) (by omega)]; omega) | exact vintS (by rw [w8 (by omega) (by omega)]; omega) | exact vslcS (by omega) | exact vslcS (by simp)) : P := h
end Go.V
namespace Go.V
def lx (ls : List (List Pl)) (i : Nat) : List Pl := ls.getD i []
theorem lx_some {ls : List (List Pl)} {i : Nat} (h : i < ls.length) : ls[i]? = some (lx ls i) := by
  unfold lx; rw [List.getD_eq_getElem?_getD]; simp [h]
theorem llA {fl : Bool} {ls : List (List Pl)} {i : Nat} (h : i < ls.length) : nth (ls.map (placesD fl)) (0 + (i : Int).toNat * 1) = some (placesD fl (lx ls i)) := by
  rw [nth_eq, List.getElem?_map, show 0 + (i : Int).toNat * 1 = i by omega, lx_some h]; rfl
theorem llA' {fl : Bool} {ls : List (List Pl)} {i : Nat} (h : i < ls.length) : nth (ls.map (placesD fl)) ((i : Int).toNat * 1) = some (placesD fl (lx ls i)) := by
  rw [nth_eq, List.getElem?_map, show (i : Int).toNat * 1 = i by omega, lx_some h]; rfl
theorem llB {fl : Bool} {ls : List (List Pl)} {ts : List D} {i : Nat} (h : i < ls.length) : nth (ls.map (placesD fl) ++ ts) (0 + (i : Int).toNat * 1) = some (placesD fl (lx ls i)) := by
  rw [nth_eq, List.getElem?_append_left (by simp; omega), ← nth_eq]; exact llA h
theorem llB0 {fl : Bool} {ls : List (List Pl)} {ts : List D} (h : 0 < ls.length) : nth (ls.map (placesD fl) ++ ts) (0 + Int.toNat 0 * 1) = some (placesD fl (lx ls 0)) := llB (i := 0) h
theorem mapO_selfF {fl : Bool} {f : D → Option D} {l : List (List Pl)} (h : ∀ x, f (placesD fl x) = some (placesD fl x)) : mapO f (l.map (placesD fl)) = some (l.map (placesD fl)) := by
  induction l with
  | nil => rfl
  | cons x l ih => rw [List.map_cons, mapO, h, ih]
theorem renLL {rn : Rn} {m fl : Bool} {ls : List (List Pl)} {n : Nat} : renD rn depth (.row m 1 (.agg (ls.map (placesD fl))) n) = some (.row m 1 (.agg (ls.map (placesD fl))) n) := by
  have : renD rn (10 + 1) (.agg (ls.map (placesD fl))) = some (.agg (ls.map (placesD fl))) := renAgg (mapO_selfF fun x => rfl)
  show (match renD rn 11 (.agg (ls.map (placesD fl))) with | some c' => some (D.row m 1 c' n) | none => none) = _
  rw [this]
theorem vfnP {f : Fn} {l : List Pl} {n k : Nat} (h : (placesC l).length ≤ n ∧ k = l.length) : D.fn f [] [D.ref false (.agg [.row false 2 (.v (.agg ⟨((placesC l).drop 0).take n⟩)) k]) 0] = D.fn f [] [refP false l] := by rw [vrefP h]
/-- What is kept, moved to the front, behind the first j. -/
def dlX (keep : List Pl → Bool) (ls : List (List Pl)) : Nat → List (List Pl)
  | 0 => ls
  | j + 1 => if keep (lx ls j) = true then (dlX keep ls j).set ((ls.take j).filter keep).length (lx ls j) else dlX keep ls j
@[simp] theorem dlX_len (keep : List Pl → Bool) (ls : List (List Pl)) : ∀ j, (dlX keep ls j).length = ls.length
  | 0 => rfl
  | j + 1 => by simp only [dlX]; split <;> simp [dlX_len keep ls j]
theorem take_lx {ls : List (List Pl)} {j : Nat} (h : j < ls.length) : ls.take (j + 1) = ls.take j ++ [lx ls j] := by
  rw [List.take_add_one, lx_some h]; rfl
theorem keep_le (keep : List Pl → Bool) (ls : List (List Pl)) (j : Nat) : ((ls.take j).filter keep).length ≤ j := by
  have := List.length_filter_le keep (ls.take j)
  simp at this; omega
theorem keep_yes {keep : List Pl → Bool} {ls : List (List Pl)} {j : Nat} (h : j < ls.length) (hk : keep (lx ls j) = true) : (ls.take (j + 1)).filter keep = (ls.take j).filter keep ++ [lx ls j] := by
  rw [take_lx h, List.filter_append]; simp [hk]
theorem keep_no {keep : List Pl → Bool} {ls : List (List Pl)} {j : Nat} (h : j < ls.length) (hk : keep (lx ls j) = false) : (ls.take (j + 1)).filter keep = (ls.take j).filter keep := by
  rw [take_lx h, List.filter_append]; simp [hk]
theorem dlX_spec (keep : List Pl → Bool) (ls : List (List Pl)) : ∀ j, j ≤ ls.length → (dlX keep ls j).take ((ls.take j).filter keep).length = (ls.take j).filter keep ∧ (dlX keep ls j).drop j = ls.drop j
  | 0, _ => by simp [dlX]
  | j + 1, hj => by
    obtain ⟨h1, h2⟩ := dlX_spec keep ls j (by omega)
    have hle := keep_le keep ls j
    have hlen := dlX_len keep ls j
    have hlt : j < ls.length := by omega
    have hd : (dlX keep ls j).drop (j + 1) = ls.drop (j + 1) := by
      rw [← List.drop_drop, ← List.drop_drop, h2]
    cases hk : keep (lx ls j)
    · rw [keep_no hlt hk]
      simp only [dlX, hk]
      exact ⟨h1, hd⟩
    · rw [keep_yes hlt hk]
      simp only [dlX, hk, if_true]
      generalize hF : (ls.take j).filter keep = F at *
      refine ⟨?_, ?_⟩
      · rw [List.length_append, List.length_singleton, List.take_add_one, List.take_set, List.getElem?_set_self (by omega)]
        rw [List.set_eq_of_length_le (by simp; omega), h1]
        rfl
      · rw [List.drop_set, if_pos (by omega)]; exact hd
theorem dlX_at {keep : List Pl → Bool} {ls : List (List Pl)} {j : Nat} (h : j < ls.length) : lx (dlX keep ls j) j = lx ls j := by
  have h2 := (dlX_spec keep ls j (by omega)).2
  have e1 := lx_some (ls := dlX keep ls j) (i := j) (by simpa using h)
  have e2 := lx_some h
  have e3 : ((dlX keep ls j).drop j)[0]? = (ls.drop j)[0]? := by rw [h2]
  simp only [List.getElem?_drop, Nat.add_zero] at e3
  rw [e1, e2] at e3
  exact Option.some.inj e3
theorem dlX_same {keep : List Pl → Bool} {ls : List (List Pl)} : ∀ {j : Nat}, j ≤ ls.length → (∀ i, i < j → keep (lx ls i) = true) → dlX keep ls j = ls ∧ ((ls.take j).filter keep).length = j
  | 0, _, _ => by simp [dlX]
  | j + 1, hj, h => by
    obtain ⟨h1, h2⟩ := dlX_same (j := j) (by omega) fun i hi => h i (by omega)
    have hk := h j (by omega)
    refine ⟨?_, by rw [keep_yes (by omega) hk, List.length_append, h2]; rfl⟩
    simp only [dlX, hk, if_true, h1, h2]
    apply List.ext_getElem?
    intro i
    rw [List.getElem?_set]
    split
    · rename_i e; subst e; rw [if_pos (by omega), lx_some (by omega)]
    · rfl
theorem below_succ' {p : Nat → Bool} {n : Nat} (h : ∀ j, j < n → p j = false) (hn : p n = false) : ∀ j, j < n + 1 → p j = false := fun j hj => by
  by_cases e : j = n
  · rw [e]; exact hn
  · exact h j (by omega)
def nilS : D := .v (.slice none 0 0)
def kpC (keep : List Pl → Bool) (ls : List (List Pl)) : D := .agg ((ls.filter keep).map (placesD true) ++ List.replicate (ls.length - (ls.filter keep).length) nilS)
end Go.V
namespace Go.Proofs.Ytcjaihndhplclaa
open Go.V
theorem repairs_sat (r : Roof) (hr : r.In) (hb : Rb r) (hn : (wrP r).length ≤ 10) : Sat Try.prog 55 [roofD r] (llD true (rpA r)) := by
  have hp : (2 : Nat) ^ (wrP r).length ≤ 2 ^ 10 := Nat.pow_le_pow_right (by omega) hn
  have hN : rpN r ≤ 1024 := hp
  refine sat_of_wp hMix tOk Try.func55 rfl rfl Try.ntmps55 rfl rfl Try.results55 (by kernel_rfl) ?_
  conv => whnf
  repeat (first | (refine go_E36 ?_; conv => whnf) | (refine lk_E36 ?_; conv => whnf))
  first | refine ⟨_, _, rfl, sc_E36 (wrong_sat r hr hb), ?_⟩ | refine .inl ⟨_, _, rfl, sc_E36 (wrong_sat r hr hb), ?_⟩
  conv => whnf
  repeat (first | (refine go_E36 ?_; conv => whnf) | (refine lk_E36 ?_; conv => whnf))
  rw [show IntKind.i64.wrap (1 * 2 ^ (min ((wrP r).length : Int).toNat IntKind.i64.bits)) = ((rpN r : Nat) : Int) from by
    rw [show min ((wrP r).length : Int).toNat IntKind.i64.bits = (wrP r).length by show min ((wrP r).length : Int).toNat 64 = _; omega, Int.one_mul]
    have e : (2 : Int) ^ (wrP r).length = ((rpN r : Nat) : Int) := by unfold rpN; push_cast; rfl
    rw [e]
    exact w64 (by omega) (by omega)]
  first | refine ⟨_, _, rfl, sc_E36 (upTo_sat (rpN r) (by omega)), ?_⟩ | refine .inl ⟨_, _, rfl, sc_E36 (upTo_sat (rpN r) (by omega)), ?_⟩
  conv => whnf
  repeat (first | (refine go_E36 ?_; conv => whnf) | (refine lk_E36 ?_; conv => whnf))
  first | refine ⟨_, _, rfl, sc_E36 (eachPP_sat (f := rpL r) (g := 111) (caps := [refP false (wrP r)]) (rpN r) (by omega) ⟨fun _ => rfl, fun _ => rfl⟩ (fun _ _ _ => rfl) (fun i hi => repairs1_sat (wrP r) (by omega) i (by omega)) false), ?_⟩ | refine .inl ⟨_, _, rfl, sc_E36 (eachPP_sat (f := rpL r) (g := 111) (caps := [refP false (wrP r)]) (rpN r) (by omega) ⟨fun _ => rfl, fun _ => rfl⟩ (fun _ _ _ => rfl) (fun i hi => repairs1_sat (wrP r) (by omega) i (by omega)) false), ?_⟩
  conv => whnf
  repeat (first | (refine go_E36 ?_; conv => whnf) | (refine lk_E36 ?_; conv => whnf))
  exact ⟨_, rwC_exp rfl rfl rfl, rfl⟩
theorem indexFuncLL_sat {g : Nat} {caps : List D} {del : List Pl → Bool} (ls : List (List Pl)) (hl : ls.length ≤ 1048576) (hc : CapOk caps) (hg : ∀ i, i < ls.length → Sat Try.prog g (placesD false (lx ls i) :: caps) (.v (.bool (del (lx ls i))))) (m : Bool) :
    Sat Try.prog 108 [.row m 1 (.agg (ls.map (placesD false))) ls.length, .fn (.func g) [] caps] (.v (.int .i64 (idxN ls.length fun i => del (lx ls i)))) := by
  refine sat_of_wp hMix tOk Try.func108 rfl rfl Try.ntmps108 rfl rfl Try.results108 (by kernel_rfl) ?_
  conv => whnf
  repeat (first | (refine go_E36 ?_; conv => whnf) | (refine lk_E36 ?_; conv => whnf))
  refine loop_rule (α := Nat) (fun i => [(0, .row m 1 (.agg (ls.map (placesD false))) ls.length), (1, .fn (.func g) [] caps), (7, .v (.int .i64 ls.length)), (8, .v (.int .i64 i))]) (fun i => []) (fun i => i ≤ ls.length ∧ ∀ j, j < i → del (lx ls j) = false) (fun i => ls.length - i) (0) ?_ (sim_of (rn := []) rfl ?_ ?_) ?_
  · exact ⟨by omega, fun j hj => by omega⟩
  · ((repeat' (first | exact trivial | apply And.intro)) <;> (first | rfl | (first | exact hc.fn _ _ | exact renLL) | exact leaf_E36))
  · ((repeat' (first | exact trivial | apply And.intro)) <;> ((first | refine ⟨_, _, rfl, rfl, ?_⟩ ); rfl))
  rintro i ⟨hi, hall⟩
  conv => whnf
  repeat (first | (refine go_E36 ?_; conv => whnf) | (refine lk_E36 ?_; conv => whnf))
  cases h : decide ((i : Int) < (ls.length : Int))
  · have hin : i = ls.length := by simp at h; omega
    subst hin
    rw [idxN_none hall]
    conv => whnf
    repeat (first | (refine go_E36 ?_; conv => whnf) | (refine lk_E36 ?_; conv => whnf))
    first | refine ⟨rfl, _, rfl, ?_⟩ | refine ⟨_, rfl, ?_⟩
    rfl
  have hin : i < ls.length := by simpa using h
  conv => whnf
  repeat (first | (refine go_E36 ?_; conv => whnf) | (refine lk_E36 ?_; conv => whnf))
  first | refine ⟨_, _, CapOk.one (by assumption) rfl, sc_E36 (hg i hin), ?_⟩ | refine .inl ⟨_, _, CapOk.one (by assumption) rfl, sc_E36 (hg i hin), ?_⟩
  conv => whnf
  repeat (first | (refine go_E36 ?_; conv => whnf) | (refine lk_E36 ?_; conv => whnf))
  cases hd : del (lx ls i)
  · conv => whnf
    repeat (first | (refine go_E36 ?_; conv => whnf) | (refine lk_E36 ?_; conv => whnf))
    refine ⟨i + 1, ?_, ?_, sim_of (rn := []) rfl ?_ ?_⟩
    · (dsimp only; omega)
    · exact ⟨by omega, below_succ' hall hd⟩
    · ((repeat' (first | exact trivial | apply And.intro)) <;> (first | rfl | (first | exact hc.fn _ _ | exact renLL) | exact leaf_E36))
    · ((repeat' (first | exact trivial | apply And.intro)) <;> ((first | refine ⟨_, _, rfl, rfl, ?_⟩ ); rfl))
  · rw [idxN_some hin hd hall]
    conv => whnf
    repeat (first | (refine go_E36 ?_; conv => whnf) | (refine lk_E36 ?_; conv => whnf))
    first | refine ⟨rfl, _, rfl, ?_⟩ | refine ⟨_, rfl, ?_⟩
    rfl
end Go.Proofs.Ytcjaihndhplclaa
/- Contracts: of lists of lists of places those that are kept, and the first one. Printed by gene37.py. -/
set_option linter.unusedVariables false
set_option linter.unusedSimpArgs false
namespace Go.V
/- Words for the walks of this text: their default arguments are tried where they are used. -/
theorem go_E37 {P Q : Prop} (k : Q) (h : P := by first | exact Nat.le_of_ble_eq_true rfl | (simp [rep_length]; omega) | exact rfl | decide | omega | (simp [splice]; done) | (constructor <;> omega) | (simp [splice]; omega)) : P ∧ Q := ⟨h, k⟩
theorem lk_E37 {α : Type} {o : Option α} {K : α → Prop} {x : α} (k : K x) (h : o = some x := by first | exact intA (by omega) | exact intA' (by omega) | exact llA (by simp; omega) | exact llA' (by simp; omega) | exact llB (by omega) | exact llB0 (by omega)) : optK o K := optK_of h k
theorem sc_E37 {P : Program} {g : FuncId} {args args' : List D} {res : D} (h : Sat P g args res) (e : args' = args := by repeat (first | rfl | exact vfull (by first | (simp [splice]; done) | (simp [splice]; omega)) | exact rfull (by first | (simp [splice]; done) | (simp [splice]; omega)) | exact vfnP (by constructor <;> simp) | refine ceq ?_ ?_ )) : Sat P g args' res := Sat.of_eq h e
theorem leaf_E37 {P : Prop} (h : P := by first | rfl | exact succ8 (by omega) | exact succ64 (by omega) | exact CapOk.fn (by assumption) _ _ | exact vintS (by omega) | exact vintS (by rw [w64 (by omega) (by omega)]; omega) | exact vintS (by rw [w8 (by omega) (by omega)]; omega) | exact vslcS (by omega) | exact vslcS (by simp)) : P := h
theorem hold_E37 {P : Prop} (h : P := by (repeat' (first | exact trivial | apply And.intro)) <;> (first | rfl | exact succ8 (by omega) | exact succ64 (by omega) | exact CapOk.fn (by assumption) _ _ | exact vintS (by omega) | exact vintS (by rw [w64 (by omega) (by omega)]; omega) | exact vintS (by rw [w8 (by omega) (by omega)]; omega) | exact vslcS (by omega) | exact vslcS (by simp))) : P := h
theorem okt_E37 {P : Prop} (h : P := by first | omega | (dsimp only; omega) | ((repeat' apply And.intro) <;> omega) | (dsimp only; (repeat' apply And.intro) <;> omega) | trivial) : P := h
end Go.V
namespace Go.V
theorem renAL {rn : Rn} {fl : Bool} {ls : List (List Pl)} : renD rn depth (.agg (ls.map (placesD fl))) = some (.agg (ls.map (placesD fl))) := renAgg (n := 11) (mapO_selfF fun x => rfl)
theorem mapLL {f : Id → Option Id} {fl : Bool} {ls : List (List Pl)} : mapD true f depth (.agg (ls.map (placesD fl))) = some (.agg (ls.map (placesD fl))) := by
  show (match mapO (mapD true f 11) (ls.map (placesD fl)) with | some ds' => some (D.agg ds') | none => none) = _
  rw [mapO_selfF (f := mapD true f 11) fun x => rfl]
theorem mapO_nil {f : D → Option D} (h : f nilS = some nilS) : ∀ n, mapO f (List.replicate n nilS) = some (List.replicate n nilS)
  | 0 => rfl
  | n + 1 => by rw [List.replicate_succ, mapO, h, mapO_nil h n]
theorem kpRen {rn : Rn} {keep : List Pl → Bool} {ls : List (List Pl)} : renD rn depth (kpC keep ls) = some (kpC keep ls) := renAgg (n := 11) (mapO_app (mapO_selfF (f := renD rn 11) fun x => rfl) (mapO_nil (f := renD rn 11) rfl _))
theorem kpMap {f : Id → Option Id} {keep : List Pl → Bool} {ls : List (List Pl)} : mapD true f depth (kpC keep ls) = some (kpC keep ls) := by
  unfold kpC
  show (match mapO (mapD true f 11) (_ ++ _) with | some ds' => some (D.agg ds') | none => none) = _
  rw [mapO_app (mapO_selfF (f := mapD true f 11) fun x => rfl) (mapO_nil (f := mapD true f 11) rfl _)]
theorem mapO_deepF {m : Id → Option D} (ls : List (List Pl)) : mapO (deep false [] m 11) (ls.map (placesD true)) = some (ls.map (placesD false)) := by
  induction ls with
  | nil => rfl
  | cons x l ih => rw [List.map_cons, mapO, ih]; rfl
theorem deepLLs {fl : Bool} {id : Id} {m : Id → Option D} {ls : List (List Pl)} (hm : m id = some (.agg (ls.map (placesD true)))) : deep false [] m depth (.slc fl 1 id 0 ls.length) = some (.row false 1 (.agg (ls.map (placesD false))) ls.length) := by
  show (match m id with
    | some (.v (.agg a)) => some (D.row false 1 (.v (.agg ⟨(a.toList.drop 0).take (ls.length * 1)⟩)) ls.length)
    | some (.agg ds) => (match mapO (deep false [] m 11) ((ds.drop 0).take (ls.length * 1)) with | some ds' => some (D.row false 1 (.agg ds') ls.length) | none => none)
    | _ => none) = _
  rw [hm]
  have e : (List.drop 0 (ls.map (placesD true))).take (ls.length * 1) = ls.map (placesD true) := by rw [List.drop_zero, Nat.mul_one]; exact take_full (by simp)
  dsimp only
  rw [e, mapO_deepF]
theorem dl_end {keep : List Pl → Bool} {ls : List (List Pl)} {o n : Nat} {zs : List Value} (ho : o = (ls.filter keep).length) (hz : zs = rep n [.slice none 0 0]) (hn : n = ls.length - o) :
    D.agg (splice ((dlX keep ls ls.length).map (placesD true)) o (zs.map D.v)) = kpC keep ls := by
  subst hz
  have h1 := (dlX_spec keep ls ls.length (Nat.le_refl _)).1
  rw [List.take_length] at h1
  have hle := List.length_filter_le keep ls
  have hr : ∀ k, (rep k [Value.slice none 0 0]).map D.v = List.replicate k nilS := by
    intro k
    unfold rep
    induction k with
    | zero => rfl
    | succ k ih => rw [List.replicate_succ, List.flatten_cons, List.map_append, ih]; rfl
  unfold splice kpC
  rw [hr, List.length_replicate, ← List.map_take, ho, h1, List.drop_eq_nil_of_le (by simp; omega), List.append_nil, hn, ho]
theorem set_map {ls : List (List Pl)} {o i : Nat} {l : List Pl} (ho : o = i) : (ls.map (placesD true)).set o (placesD true l) = (ls.set i l).map (placesD true) := by
  subst ho; rw [List.map_set]
theorem all_kp {keep : List Pl → Bool} {ls : List (List Pl)} (h : ∀ i, i < ls.length → keep (lx ls i) = true) : ls.all keep = true ∧ ls.filter keep = ls := by
  have h' : ∀ x ∈ ls, keep x = true := by
    intro x hx
    obtain ⟨i, hi, rfl⟩ := List.getElem_of_mem hx
    have := h i hi
    unfold lx at this
    rw [List.getD_eq_getElem?_getD, List.getElem?_eq_getElem hi] at this
    exact this
  exact ⟨List.all_eq_true.2 h', List.filter_eq_self.2 h'⟩
theorem mapO_two {f : D → Option D} {a b x y : D} (h1 : f a = some x) (h2 : f b = some y) : mapO f [a, b] = some [x, y] := by simp only [mapO, h1, h2]
theorem lx_mem {ls : List (List Pl)} {i : Nat} (h : i < ls.length) : lx ls i ∈ ls := List.mem_of_getElem? (lx_some h)
theorem minX_mem (c : List Pl → List Pl → Int) (m : List Pl) : ∀ (l : List (List Pl)), minX c m l ∈ m :: l := by
  intro l
  refine snoc_ind (P := fun l => minX c m l ∈ m :: l) (by simp [minX]) (fun l x ih => ?_) l
  rw [minX_snoc]
  split
  · simp
  · simp only [List.mem_cons, List.mem_append, List.not_mem_nil, or_false] at ih ⊢
    rcases ih with h | h
    · exact .inl h
    · exact .inr (.inl h)
theorem drop1_take {ls : List (List Pl)} {i : Nat} (h : i + 1 < ls.length) : (ls.drop 1).take (i + 1) = (ls.drop 1).take i ++ [lx ls (i + 1)] := by
  rw [List.take_add_one, List.getElem?_drop, show 1 + i = i + 1 by omega, lx_some h]; rfl
theorem idxN_neg {n : Nat} {p : Nat → Bool} (h : idxN n p = -1) : ∀ j, j < n → p j = false := by
  intro j hj
  cases hp : p j
  · rfl
  · exfalso
    unfold idxN at h
    cases hf : (List.range n).find? p with
    | none => have := List.find?_eq_none.1 hf j (by simpa using hj); simp [hp] at this
    | some i => rw [hf] at h; simp at h
theorem idxN_first {n : Nat} {p : Nat → Bool} (h : ¬ idxN n p = -1) : ∃ i, i < n ∧ idxN n p = i ∧ p i = true ∧ ∀ j, j < i → p j = false := by
  unfold idxN at h ⊢
  revert h
  cases hf : (List.range n).find? p with
  | none => intro h; exact absurd rfl h
  | some i =>
    intro h
    refine ⟨i, by have := List.mem_of_find?_eq_some hf; simpa using this, rfl, List.find?_some hf, fun j hj => ?_⟩
    have := List.find?_range_eq_some.1 hf
    have := this.2.2 j hj
    simpa using this
end Go.V
namespace Go.Proofs.Ytcjaihndhplclaa
open Go.V
set_option maxRecDepth 8000 in
theorem deleteFunc1_satL {g : Nat} {keep : List Pl → Bool} {x1 : List Value} (ls : List (List Pl)) (hl : 0 < ls.length ∧ ls.length ≤ 4096) (hg : ∀ l ∈ ls, Sat Try.prog g (placesD false l :: [.ref false (.v (.agg ⟨x1⟩)) 0]) (.v (.bool (!keep l)))) :
    SatB true Try.prog 54 [.slc true 1 (lentId 0) 0 ls.length, .fn (.func g) [] [.ptr (lentId 1) 0]] [.agg (ls.map (placesD true)), .v (.agg ⟨x1⟩)]
      (.slc (ls.all keep) 1 (lentId 0) 0 (ls.filter keep).length) [some (kpC keep ls), some (.v (.agg ⟨x1⟩))] [] := by
  refine satL_of_wp hMix tOk Try.func54 rfl rfl Try.ntmps54 rfl rfl Try.results54 (by kernel_rfl) ?_
  conv => whnf
  repeat (first | (refine go_E37 ?_; conv => whnf) | (refine lk_E37 ?_; conv => whnf))
  refine ⟨[.row false 1 (.agg (ls.map (placesD false))) ls.length, .fn (.func g) [] [.ref false (.v (.agg ⟨x1⟩)) 0]], _, ?_, indexFuncLL_sat (g := g) (caps := [.ref false (.v (.agg ⟨x1⟩)) 0]) (del := fun l => !keep l) ls (by omega) ⟨fun _ => rfl, fun _ => rfl⟩ (fun i hi => hg _ (lx_mem hi)) false, ?_⟩
  · exact mapO_two (deepLLs rfl) rfl
  conv => whnf
  repeat (first | (refine go_E37 ?_; conv => whnf) | (refine lk_E37 ?_; conv => whnf))
  cases h0 : (idxN ls.length (fun i => !keep (lx ls i)) == -1)
  case true =>
    have hall := idxN_neg (by simpa using h0)
    obtain ⟨ha, hf⟩ := all_kp (keep := keep) (ls := ls) fun i hi => by have := hall i hi; simpa using this
    have hk : kpC keep ls = .agg (ls.map (placesD true)) := by unfold kpC; rw [hf, Nat.sub_self]; simp
    rw [ha, hf, hk]
    conv => whnf
    repeat (first | (refine go_E37 ?_; conv => whnf) | (refine lk_E37 ?_; conv => whnf))
    refine ⟨[], _, rfl, rfl, rfl, rfl, ⟨⟨_, rfl, ?_⟩, ⟨_, rfl, rfl⟩, trivial⟩, rfl⟩
    exact mapLL
  obtain ⟨i0, hi0, he0, hk0, hb0⟩ := idxN_first (n := ls.length) (p := fun i => !keep (lx ls i)) (by simpa using h0)
  rw [he0]
  have hsame := dlX_same (keep := keep) (ls := ls) (j := i0) (by omega) fun i hi => by have := hb0 i hi; simpa using this
  have hno : keep (lx ls i0) = false := by simpa using hk0
  have hd1 : dlX keep ls (i0 + 1) = ls := by simp only [dlX, hno]; exact hsame.1
  have hc1 : ((ls.take (i0 + 1)).filter keep).length = i0 := by rw [keep_no hi0 hno]; exact hsame.2
  have hall : ls.all keep = false := by
    rw [List.all_eq_false]
    exact ⟨_, lx_mem hi0, by simp [hno]⟩
  rw [hall]
  conv => whnf
  repeat (first | (refine go_E37 ?_; conv => whnf) | (refine lk_E37 ?_; conv => whnf))
  refine loop_rule (α := Nat) (fun j => [(0, .slc true 1 (lentId 0) 0 ls.length), (1, .fn (.func g) [] [.ptr (lentId 1) 0]), (5, .v (.int .i64 ((ls.take j).filter keep).length)), (6, .v (.int .i64 j))]) (fun j => [(lentId 0, .agg ((dlX keep ls j).map (placesD true))), (lentId 1, .v (.agg ⟨x1⟩))]) (fun j => j ≤ ls.length ∧ i0 < j ∧ ((ls.take j).filter keep).length < j) (fun j => ls.length - j) (i0 + 1) ?_ (sim_of (rn := []) rfl ?_ ?_) ?_
  · exact ⟨by omega, by omega, by omega⟩
  · ((repeat' (first | exact trivial | apply And.intro)) <;> (first | rfl | (exact vintS (by rw [hc1])) | exact leaf_E37))
  · ((repeat' (first | exact trivial | apply And.intro)) <;> ((first | refine ⟨_, _, rfl, rfl, ?_⟩ | refine ⟨_, _, rfl, renAL, ?_⟩ | refine ⟨_, _, rfl, kpRen, ?_⟩ | refine ⟨_, _, rfl, hkr _, ?_⟩); first | (first | (rw [hd1]; rfl) | rfl) | rfl))
  rintro j ⟨hj, hij, hcj⟩
  have hxl := dlX_len keep ls j
  have hsp := dlX_spec keep ls j hj
  conv => whnf
  repeat (first | (refine go_E37 ?_; conv => whnf) | (refine lk_E37 ?_; conv => whnf))
  cases h1 : decide ((j : Int) < (ls.length : Int))
  · have hjn : j = ls.length := by simp at h1; omega
    subst hjn
    rw [List.take_length] at hcj
    rw [List.take_length]
    conv => whnf
    repeat (first | (refine go_E37 ?_; conv => whnf) | (refine lk_E37 ?_; conv => whnf))
    refine ⟨?_, ?_⟩
    · show 0 + (((ls.filter keep).length : Nat) : Int).toNat * 1 + (rep ((ls.length : Int).toNat - ((ls.filter keep).length : Int).toNat) [Value.slice none 0 0]).length ≤ _
      rw [rep_length]
      simp
      omega
    conv => whnf
    repeat (first | (refine go_E37 ?_; conv => whnf) | (refine lk_E37 ?_; conv => whnf))
    refine ⟨[], _, rfl, rfl, rfl, ?_, ⟨⟨_, rfl, ?_⟩, ⟨_, rfl, rfl⟩, trivial⟩, rfl⟩
    · exact congrArg (D.slc false 1 (lentId 0) 0) (by show _ = (((ls.filter keep).length : Nat) : Int).toNat - 0; omega)
    · exact (congrArg (mapD true (outF []) depth) (dl_end (keep := keep) (ls := ls) (o := 0 + (((ls.filter keep).length : Nat) : Int).toNat * 1) (n := (ls.length : Int).toNat - (((ls.filter keep).length : Nat) : Int).toNat) (by omega) rfl (by omega))).trans kpMap
  have hjn : j < ls.length := by simpa using h1
  have hat := dlX_at (keep := keep) hjn
  conv => whnf
  repeat (first | (refine go_E37 ?_; conv => whnf) | (refine lk_E37 ?_; conv => whnf))
  rw [hat]
  first | refine ⟨_, _, rfl, sc_E37 (hg _ (lx_mem hjn)), ?_⟩ | refine .inl ⟨_, _, rfl, sc_E37 (hg _ (lx_mem hjn)), ?_⟩
  conv => whnf
  repeat (first | (refine go_E37 ?_; conv => whnf) | (refine lk_E37 ?_; conv => whnf))
  cases hk : keep (lx ls j)
  · conv => whnf
    repeat (first | (refine go_E37 ?_; conv => whnf) | (refine lk_E37 ?_; conv => whnf))
    have e := keep_no hjn hk
    refine ⟨j + 1, ?_, ?_, sim_of (rn := []) rfl ?_ ?_⟩
    · (dsimp only; omega)
    · exact ⟨by omega, by omega, by rw [e]; omega⟩
    · ((repeat' (first | exact trivial | apply And.intro)) <;> (first | rfl | (exact vintS (by rw [e])) | exact leaf_E37))
    · ((repeat' (first | exact trivial | apply And.intro)) <;> ((first | refine ⟨_, _, rfl, rfl, ?_⟩ | refine ⟨_, _, rfl, renAL, ?_⟩ | refine ⟨_, _, rfl, kpRen, ?_⟩ | refine ⟨_, _, rfl, hkr _, ?_⟩); first | (exact congrArg (fun l => some (D.agg (List.map (placesD true) l))) (by simp only [dlX, hk]; rfl)) | rfl))
  · have e := keep_yes hjn hk
    have e2 : dlX keep ls (j + 1) = (dlX keep ls j).set ((ls.take j).filter keep).length (lx ls j) := by simp only [dlX, hk, if_true]
    conv => whnf
    repeat (first | (refine go_E37 ?_; conv => whnf) | (refine lk_E37 ?_; conv => whnf))
    refine ⟨j + 1, ?_, ?_, sim_of (rn := []) rfl ?_ ?_⟩
    · (dsimp only; omega)
    · exact ⟨by omega, by omega, by rw [e, List.length_append, List.length_singleton]; omega⟩
    · ((repeat' (first | exact trivial | apply And.intro)) <;> (first | rfl | (exact vintS (by rw [e, List.length_append, w64 (by omega) (by omega)]; rfl)) | exact leaf_E37))
    · ((repeat' (first | exact trivial | apply And.intro)) <;> ((first | refine ⟨_, _, rfl, rfl, ?_⟩ | refine ⟨_, _, rfl, renAL, ?_⟩ | refine ⟨_, _, rfl, kpRen, ?_⟩ | refine ⟨_, _, rfl, hkr _, ?_⟩); first | (exact (congrArg (fun l => some (D.agg l)) ((set_map (ls := dlX keep ls j) (o := 0 + (((ls.take j).filter keep).length : Int).toNat * 1) (i := ((ls.take j).filter keep).length) (l := lx ls j) (by omega)).trans (congrArg (List.map (placesD true)) e2.symm)))) | rfl))
set_option maxRecDepth 8000 in
theorem minFunc2_satL {g : Nat} {keep : List Pl → Bool} {c : List Pl → List Pl → Int} {x1 x2 : List Value} (ls0 ls : List (List Pl)) (fl : Bool) (hls : ls0.filter keep = ls) (hl : 0 < ls.length ∧ ls.length ≤ 4096) (hg : ∀ x ∈ ls, ∀ y ∈ ls, Sat Try.prog g (placesD false x :: placesD false y :: [.ref false (.v (.agg ⟨x1⟩)) 0, .ref false (.v (.agg ⟨x2⟩)) 0]) (.v (.int .i64 (c x y)))) :
    SatB true Try.prog 57 [.slc fl 1 (lentId 0) 0 ls.length, .fn (.func g) [] [.ptr (lentId 1) 0, .ptr (lentId 2) 0]] [kpC keep ls0, .v (.agg ⟨x1⟩), .v (.agg ⟨x2⟩)]
      (placesD true (minX c (lx ls 0) (ls.drop 1))) [some (kpC keep ls0), some (.v (.agg ⟨x1⟩)), some (.v (.agg ⟨x2⟩))] [] := by
  have hkp : kpC keep ls0 = .agg (ls.map (placesD true) ++ List.replicate (ls0.length - ls.length) nilS) := by unfold kpC; rw [hls]
  have hkr : ∀ rn : Rn, renD rn depth (.agg (ls.map (placesD true) ++ List.replicate (ls0.length - ls.length) nilS)) = some (.agg (ls.map (placesD true) ++ List.replicate (ls0.length - ls.length) nilS)) := fun rn => by rw [← hkp]; exact kpRen
  have hkm : ∀ f : V.Id → Option V.Id, mapD true f depth (.agg (ls.map (placesD true) ++ List.replicate (ls0.length - ls.length) nilS)) = some (.agg (ls.map (placesD true) ++ List.replicate (ls0.length - ls.length) nilS)) := fun f => by rw [← hkp]; exact kpMap
  rw [hkp]
  refine satL_of_wp hMix tOk Try.func57 rfl rfl Try.ntmps57 rfl rfl Try.results57 (by kernel_rfl) ?_
  conv => whnf
  repeat (first | (refine go_E37 ?_; conv => whnf) | (refine lk_E37 ?_; conv => whnf))
  rw [show decide ((ls.length : Int) < 1) = false by simp; omega]
  conv => whnf
  repeat (first | (refine go_E37 ?_; conv => whnf) | (refine lk_E37 ?_; conv => whnf))
  refine loop_rule (α := Nat) (fun i => [(0, .slc fl 1 (lentId 0) 0 ls.length), (1, .fn (.func g) [] [.ptr (lentId 1) 0, .ptr (lentId 2) 0]), (5, placesD true (minX c (lx ls 0) ((ls.drop 1).take i))), (6, .v (.int .i64 ((i + 1 : Nat) : Int)))]) (fun i => [(lentId 0, .agg (ls.map (placesD true) ++ List.replicate (ls0.length - ls.length) nilS)), (lentId 1, .v (.agg ⟨x1⟩)), (lentId 2, .v (.agg ⟨x2⟩))]) (fun i => i + 1 ≤ ls.length) (fun i => ls.length - i) (0) ?_ (sim_of (rn := []) rfl ?_ ?_) ?_
  · exact okt_E37
  · exact hold_E37
  · ((repeat' (first | exact trivial | apply And.intro)) <;> ((first | refine ⟨_, _, rfl, rfl, ?_⟩ | refine ⟨_, _, rfl, renAL, ?_⟩ | refine ⟨_, _, rfl, kpRen, ?_⟩ | refine ⟨_, _, rfl, hkr _, ?_⟩); rfl))
  intro i hi
  conv => whnf
  repeat (first | (refine go_E37 ?_; conv => whnf) | (refine lk_E37 ?_; conv => whnf))
  cases h1 : decide (((i + 1 : Nat) : Int) < (ls.length : Int))
  · have h8 : i = ls.length - 1 := by simp at h1; omega
    rw [h8, List.take_of_length_le (by simp)]
    conv => whnf
    repeat (first | (refine go_E37 ?_; conv => whnf) | (refine lk_E37 ?_; conv => whnf))
    refine ⟨[], _, rfl, rfl, rfl, rfl, ⟨⟨_, rfl, hkm _⟩, ⟨_, rfl, rfl⟩, ⟨_, rfl, rfl⟩, trivial⟩, rfl⟩
  have hlt : i + 1 < ls.length := by simp at h1; omega
  have hm : minX c (lx ls 0) ((ls.drop 1).take i) ∈ ls := by
    have := minX_mem c (lx ls 0) ((ls.drop 1).take i)
    rcases List.mem_cons.1 this with h | h
    · rw [h]; exact lx_mem (by omega)
    · exact List.mem_of_mem_drop (List.mem_of_mem_take h)
  have hs := minX_snoc c (lx ls 0) ((ls.drop 1).take i) (lx ls (i + 1))
  rw [← drop1_take hlt] at hs
  generalize hme : minX c (lx ls 0) ((ls.drop 1).take i) = x0 at *
  conv => whnf
  repeat (first | (refine go_E37 ?_; conv => whnf) | (refine lk_E37 ?_; conv => whnf))
  first | refine ⟨_, _, rfl, sc_E37 (hg _ (lx_mem hlt) x0 hm), ?_⟩ | refine .inl ⟨_, _, rfl, sc_E37 (hg _ (lx_mem hlt) x0 hm), ?_⟩
  conv => whnf
  repeat (first | (refine go_E37 ?_; conv => whnf) | (refine lk_E37 ?_; conv => whnf))
  cases h2 : decide (c (lx ls (i + 1)) x0 < 0)
  · rw [if_neg (by simpa using h2)] at hs
    conv => whnf
    repeat (first | (refine go_E37 ?_; conv => whnf) | (refine lk_E37 ?_; conv => whnf))
    refine ⟨i + 1, ?_, ?_, sim_of (rn := []) rfl ?_ ?_⟩
    · (dsimp only; omega)
    · exact okt_E37
    · ((repeat' (first | exact trivial | apply And.intro)) <;> (first | rfl | (exact congrArg (fun l => some (placesD true l)) hs) | exact leaf_E37))
    · ((repeat' (first | exact trivial | apply And.intro)) <;> ((first | refine ⟨_, _, rfl, rfl, ?_⟩ | refine ⟨_, _, rfl, renAL, ?_⟩ | refine ⟨_, _, rfl, kpRen, ?_⟩ | refine ⟨_, _, rfl, hkr _, ?_⟩); rfl))
  · rw [if_pos (by simpa using h2)] at hs
    conv => whnf
    repeat (first | (refine go_E37 ?_; conv => whnf) | (refine lk_E37 ?_; conv => whnf))
    refine ⟨i + 1, ?_, ?_, sim_of (rn := []) rfl ?_ ?_⟩
    · (dsimp only; omega)
    · exact okt_E37
    · ((repeat' (first | exact trivial | apply And.intro)) <;> (first | rfl | (exact congrArg (fun l => some (placesD true l)) hs) | exact leaf_E37))
    · ((repeat' (first | exact trivial | apply And.intro)) <;> ((first | refine ⟨_, _, rfl, rfl, ?_⟩ | refine ⟨_, _, rfl, renAL, ?_⟩ | refine ⟨_, _, rfl, kpRen, ?_⟩ | refine ⟨_, _, rfl, hkr _, ?_⟩); rfl))
end Go.Proofs.Ytcjaihndhplclaa
/- Contracts: the fewest repairs, the repairs with the least drips, both sides. -/
set_option linter.unusedVariables false
set_option linter.unusedSimpArgs false
namespace Go.V
/- Words for the walks of this text: their default arguments are tried where they are used. -/
theorem go_E38 {P Q : Prop} (k : Q) (h : P := by first | exact Nat.le_of_ble_eq_true rfl | exact rfl | decide | omega | (simp [splice]; done) | (constructor <;> omega) | (simp [splice]; omega)) : P ∧ Q := ⟨h, k⟩
theorem lk_E38 {α : Type} {o : Option α} {K : α → Prop} {x : α} (k : K x) (h : o = some x := by first | exact raiA (by omega) | exact raiA' (by omega) | exact roofN (by omega) (by omega) | exact gridN (by omega) (by omega) | exact intA (by omega) | exact intA' (by omega) | exact placeA (by omega) | exact placeB (by omega) | exact placeA' (by omega) | exact placeB' (by omega)) : optK o K := optK_of h k
theorem sc_E38 {P : Program} {g : FuncId} {args args' : List D} {res : D} (h : Sat P g args res) (e : args' = args := by repeat (first | rfl | exact vfull (by first | (simp [splice]; done) | (simp [splice]; omega)) | exact rfull (by first | (simp [splice]; done) | (simp [splice]; omega)) | exact vplace (by simp; done) (by omega) | exact vrow (by simp; done) (by omega) | exact vtiles (by simp) | exact vsplice (by simp) (by simp) | refine ceq ?_ ?_ | refine Eq.trans (vsplice (by first | (simp; done) | (simp; omega)) (by first | (simp; done) | (simp; omega))) ?_)) : Sat P g args' res := Sat.of_eq h e
end Go.V
namespace Go.V
theorem wrP_in {r : Roof} (hb : Rb r) : AllIn (wrP r) := allP_in hb (wrB r)
theorem rp_in {r : Roof} (hb : Rb r) {l : List Pl} (h : ∀ q ∈ l, q ∈ wrP r) : AllIn l := by
  intro i hi
  obtain ⟨j, hj, e⟩ := List.getElem_of_mem (h _ (nthP_mem hi))
  have := wrP_in hb j hj
  have e2 := nthP_some hj
  rw [List.getElem?_eq_getElem hj] at e2
  rw [Option.some.inj e2] at e
  rw [e] at this; exact this
theorem mapO_three {α β : Type} {f : α → Option β} {a b c : α} {x y z : β} (h1 : f a = some x) (h2 : f b = some y) (h3 : f c = some z) : mapO f [a, b, c] = some [x, y, z] := by simp only [mapO, h1, h2, h3]
theorem mapO_pair {α β : Type} {f : α → Option β} {a b : α} {x y : β} (h1 : f a = some x) (h2 : f b = some y) : mapO f [a, b] = some [x, y] := by simp only [mapO, h1, h2]
theorem lendLL {m : Id → Option D} {f : Id → Option Id} {id : Id} {ls : List (List Pl)} (h : m id = some (.agg (ls.map (placesD true)))) : lendC true m f id = some (.agg (ls.map (placesD true))) := by
  unfold lendC; rw [h]; exact mapLL
theorem lendKP {m : Id → Option D} {f : Id → Option Id} {id : Id} {keep : List Pl → Bool} {ls : List (List Pl)} (h : m id = some (kpC keep ls)) : lendC true m f id = some (kpC keep ls) := by
  unfold lendC; rw [h]; exact kpMap
theorem backKP {f : Id → Option Id} {keep : List Pl → Bool} {ls : List (List Pl)} : backC f (some (kpC keep ls)) = some (some (kpC keep ls)) := by
  show (match mapD true f depth (kpC keep ls) with | some c' => some (some c') | none => none) = _
  rw [kpMap]
theorem rpA_len (r : Roof) : (rpA r).length = rpN r := by unfold rpA; simp
theorem ll_cons {fl m : Bool} {ls : List (List Pl)} (h : 0 < ls.length) : llD m ls = .row m 1 (.agg (ls.map (placesD true))) ls.length := by
  cases ls with
  | nil => simp at h
  | cons x l => rfl
theorem cmD_lt (r : Roof) (w : Nat → Int) (x y : List Pl) : cmD r w x y < 0 ↔ afI r w x < afI r w y ∨ (afI r w x = afI r w y ∧ cmL x y < 0) := by
  unfold cmD
  split
  · rename_i h; rw [cmpI_ne] at h; rw [cmpI_lt]; omega
  · rename_i h; rw [cmpI_ne] at h; omega
theorem shl64 {n : Nat} (h : n ≤ 10) : IntKind.i64.wrap (1 * 2 ^ (min (IntKind.u64.wrap (n : Int)).toNat IntKind.i64.bits)) = ((2 ^ n : Nat) : Int) := by
  rw [wu64 (by omega) (by omega), show min (n : Int).toNat IntKind.i64.bits = n by show min (n : Int).toNat 64 = _; omega, Int.one_mul]
  have e : (2 : Int) ^ n = ((2 ^ n : Nat) : Int) := by push_cast; rfl
  have hp : (2 : Nat) ^ n ≤ 2 ^ 10 := Nat.pow_le_pow_right (by omega) h
  rw [e]
  generalize (2 : Nat) ^ n = z at *
  exact w64 (by omega) (by omega)
theorem selX_mem {c : List Pl → List Pl → Int} {sel : Nat → Bool} {L : Nat → List Pl} {m : List Pl} : ∀ {k : Nat}, selX c sel L m k = m ∨ ∃ j, j < k ∧ selX c sel L m k = L j
  | 0 => .inl rfl
  | k + 1 => by
    simp only [selX]
    split
    · exact .inr ⟨k, by omega, rfl⟩
    · rcases selX_mem (c := c) (sel := sel) (L := L) (m := m) (k := k) with h | ⟨j, hj, h⟩
      · exact .inl h
      · exact .inr ⟨j, by omega, h⟩
end Go.V
namespace Go.Proofs.Ytcjaihndhplclaa
open Go.V
def frK (r : Roof) (w : Nat → Int) (b : Bool) : Int := if rnK r w b = 0 ∧ 10 < (wrP r).length then 3 else rnK r w b
def ldB (m : Int) : Bool := decide (m ≥ 0) && decide (m ≤ 10)
def ldY (r : Roof) (w : Nat → Int) (m : Int) : List Pl := if frK r w (ldB m) = 0 then ldX r w m else []
def ldZ (r : Roof) (w : Nat → Int) (m : Int) : Int := if frK r w (ldB m) = 0 then afI r w (ldX r w m) else 0
def ldV (r : Roof) (w : Nat → Int) (m : Int) : D := .tup [placesD true (ldY r w m), .v (.int .i64 (ldZ r w m)), .v (.int .i64 (frK r w (ldB m)))]
theorem rnK_zero {r : Roof} {w : Nat → Int} {b : Bool} (h : rnK r w b = 0) : okN r w = true ∧ b = true := by
  unfold rnK at h
  split at h
  · rename_i h1
    split at h
    · rename_i h2; exact ⟨h1, h2⟩
    · cases h
  · cases h
theorem frK_zero {r : Roof} {w : Nat → Int} {b : Bool} (h : frK r w b = 0) : rnK r w b = 0 ∧ (wrP r).length ≤ 10 := by
  unfold frK at h
  split at h
  · cases h
  · rename_i h1; exact ⟨h, by omega⟩
theorem least1_del_sat (m : Int) (l : List Pl) (hl : l.length ≤ 1048576) : Sat Try.prog 65 [placesD false l, .ref false (.v (.agg ⟨[.int .i64 m]⟩)) 0] (.v (.bool (!ldS m l))) := by
  refine sat_of_wp hMix tOk Try.func65 rfl rfl Try.ntmps65 rfl rfl Try.results65 (by kernel_rfl) ?_
  conv => whnf
  repeat (first | (refine go_E38 ?_; conv => whnf) | (refine lk_E38 ?_; conv => whnf))
  first | refine ⟨rfl, _, rfl, ?_⟩ | refine ⟨_, rfl, ?_⟩
  skip
  unfold ldS
  rw [show (!decide ((l.length : Int) ≤ m)) = decide ((l.length : Int) > m) by rw [← decide_not, decide_eq_decide]; omega]; rfl
theorem least2_sat (r : Roof) (hr : r.In) (hb : Rb r) (w : Nat → Int) (hw : W1 w) (x y : List Pl) (hx : x.length ≤ 1048576) (hy : y.length ≤ 1048576) (px : AllIn x) (py : AllIn y) :
    Sat Try.prog 66 [placesD false x, placesD false y, .ref false (.v (.agg ⟨roofC r⟩)) 0, .ref false (.v (.agg ⟨raiC w⟩)) 0] (.v (.int .i64 (cmD r w x y))) := by
  refine sat_of_wp hMix tOk Try.func66 rfl rfl Try.ntmps66 rfl rfl Try.results66 (by kernel_rfl) ?_
  conv => whnf
  repeat (first | (refine go_E38 ?_; conv => whnf) | (refine lk_E38 ?_; conv => whnf))
  first | refine ⟨_, _, rfl, sc_E38 (after_sat r hr hb w hw x hx px false), ?_⟩ | refine .inl ⟨_, _, rfl, sc_E38 (after_sat r hr hb w hw x hx px false), ?_⟩
  conv => whnf
  repeat (first | (refine go_E38 ?_; conv => whnf) | (refine lk_E38 ?_; conv => whnf))
  first | refine ⟨_, _, rfl, sc_E38 (after_sat r hr hb w hw y hy py false), ?_⟩ | refine .inl ⟨_, _, rfl, sc_E38 (after_sat r hr hb w hw y hy py false), ?_⟩
  conv => whnf
  repeat (first | (refine go_E38 ?_; conv => whnf) | (refine lk_E38 ?_; conv => whnf))
  first | refine ⟨_, _, rfl, sc_E38 (compare_sat _ _), ?_⟩ | refine .inl ⟨_, _, rfl, sc_E38 (compare_sat _ _), ?_⟩
  conv => whnf
  repeat (first | (refine go_E38 ?_; conv => whnf) | (refine lk_E38 ?_; conv => whnf))
  first | refine ⟨_, _, rfl, sc_E38 (compareLists_sat x y hx hy false false), ?_⟩ | refine .inl ⟨_, _, rfl, sc_E38 (compareLists_sat x y hx hy false false), ?_⟩
  conv => whnf
  repeat (first | (refine go_E38 ?_; conv => whnf) | (refine lk_E38 ?_; conv => whnf))
  first | refine ⟨_, _, rfl, sc_E38 (or2_sat _ _ false), ?_⟩ | refine .inl ⟨_, _, rfl, sc_E38 (or2_sat _ _ false), ?_⟩
  conv => whnf
  repeat (first | (refine go_E38 ?_; conv => whnf) | (refine lk_E38 ?_; conv => whnf))
  first | refine ⟨rfl, _, rfl, ?_⟩ | refine ⟨_, rfl, ?_⟩
  rfl
theorem repairsR_sat (r : Roof) (hr : r.In) (hb : Rb r) (hn : (wrP r).length ≤ 10) : Sat Try.prog 55 [roofD r] (.row true 1 (.agg ((rpA r).map (placesD true))) (rpA r).length) := by
  have := repairs_sat r hr hb hn
  rw [ll_cons (fl := true) (by rw [rpA_len]; exact rpN_pos r)] at this
  exact this
end Go.Proofs.Ytcjaihndhplclaa
