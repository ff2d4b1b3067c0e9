import Derived.Test.YtndlknhakdadjaaP1
import Derived.Test.YtndlknhakdadjaaVT
set_option linter.unusedVariables false
set_option linter.unusedSimpArgs false
/- Plain words: rain that runs down a roof. -/
set_option linter.unusedVariables false
set_option linter.unusedSimpArgs false
namespace Go.V
/-- Rain. -/
def raiC (w : Nat → Int) : List Value := tab 17 fun i => .int .i16 (w i)
@[simp] theorem raiC_len (w : Nat → Int) : (raiC w).length = 17 := by simp [raiC]
def raiD (w : Nat → Int) : D := .v (.agg ⟨raiC w⟩)
structure RaiIn (w : Nat → Int) : Prop where
  t : ∀ i, -32768 ≤ w i ∧ w i ≤ 32767
theorem raiN {w : Nat → Int} {o i : Nat} (ho : o = i) (h : i < 17) : nth (raiC w) o = some (.int .i16 (w i)) := by subst ho; unfold raiC; rw [nth_tab h]
theorem raiA {w : Nat → Int} {i : Nat} (h : i < 17) : nth (raiC w) (0 + (i : Int).toNat * 1) = some (.int .i16 (w i)) := raiN (by simp) h
theorem raiA' {w : Nat → Int} {i : Nat} (h : i < 17) : nth (raiC w) ((i : Int).toNat * 1) = some (.int .i16 (w i)) := raiN (by simp) h
theorem raiC_congr {f g : Nat → Int} (h : ∀ i, i < 17 → f i = g i) : raiC f = raiC g := by
  unfold raiC; exact tab_congr fun i hi => by rw [h i hi]
theorem rai_set {w : Nat → Int} {c o : Nat} {x : Int} (ho : o = c) : (raiC w).set o (.int .i16 x) = raiC (putW w c x) := by
  subst ho
  unfold raiC putW
  rw [tab_set]
  apply tab_congr
  intro i hi
  by_cases h : i = o
  · subst h; simp
  · simp [h]
theorem raiC_zero : raiC (fun _ => 0) = List.replicate 17 (.int .i16 0) := by
  unfold raiC; rw [tab_def]; rfl
/-- What drips: eight courses of seventeen cells. -/
def dripC (f : Nat → Nat → Int) : List Value := tab 136 fun k => .int .i32 (f (k / 17) (k % 17))
@[simp] theorem dripC_len (f : Nat → Nat → Int) : (dripC f).length = 136 := by simp [dripC]
def dripD (f : Nat → Nat → Int) : D := .v (.agg ⟨dripC f⟩)
theorem dripN {f : Nat → Nat → Int} {o i c : Nat} (ho : o = i * 17 + c) (hi : i < 8) (hc : c < 17) : nth (dripC f) o = some (.int .i32 (f i c)) := by
  subst ho
  unfold dripC
  rw [nth_tab (by omega), show (i * 17 + c) / 17 = i by omega, show (i * 17 + c) % 17 = c by omega]
theorem dripA {f : Nat → Nat → Int} {i c : Nat} (hi : i < 8) (hc : c < 17) : nth (dripC f) (0 + (i : Int).toNat * 17 + (c : Int).toNat * 1) = some (.int .i32 (f i c)) := dripN (by simp) hi hc
def putM (f : Nat → Nat → Int) (i c : Nat) (x : Int) : Nat → Nat → Int := fun i' c' => if i' = i ∧ c' = c then x else f i' c'
theorem drip_set {f : Nat → Nat → Int} {i c o : Nat} {x : Int} (ho : o = i * 17 + c) (hi : i < 8) (hc : c < 17) : (dripC f).set o (.int .i32 x) = dripC (putM f i c x) := by
  subst ho
  unfold dripC putM
  rw [tab_set]
  apply tab_congr
  intro k hk
  by_cases h : k = i * 17 + c
  · subst h
    rw [if_pos rfl, if_pos ⟨by omega, by omega⟩]
  · rw [if_neg h, if_neg (by omega)]
theorem dripC_zero : dripC (fun _ _ => 0) = List.replicate 136 (.int .i32 0) := by
  unfold dripC; rw [tab_def]; simp [List.map_const']
/-- Which tile covers a cell of a course, and of what kind it is. -/
def shN (r : Roof) (i : Nat) : Nat := (i + r.s.toNat) % 2
def tlI (r : Roof) (i c : Nat) : Int := if c < shN r i then -1 else if (((c - shN r i) / 2 : Nat) : Int) < r.w then (((c - shN r i) / 2 : Nat) : Int) else -1
def ovI (r : Roof) (i c : Nat) : Int := if tlI r i c < 0 then 0 else r.t i (tlI r i c).toNat
def drI (r : Roof) (i c : Nat) (n : Int) : Int :=
  if ovI r i c = 1 then (n + 1).tdiv 2 else if ovI r i c = 2 then (n + 2).tdiv 3 else if ovI r i c = 3 then (if 0 < i ∧ ovI r (i - 1) c = 2 then 0 else n) else 0
theorem tlI_range (r : Roof) (i c : Nat) : -1 ≤ tlI r i c ∧ (tlI r i c < 0 ∨ tlI r i c < r.w) := by
  unfold tlI
  split
  · omega
  · split <;> omega
theorem drI_in (r : Roof) (i c : Nat) {n : Int} (h : 0 ≤ n) : 0 ≤ drI r i c n ∧ drI r i c n ≤ n := by
  have h2 : (n + 1).tdiv 2 = (n + 1) / 2 := Int.tdiv_eq_ediv_of_nonneg (by omega)
  have h3 : (n + 2).tdiv 3 = (n + 2) / 3 := Int.tdiv_eq_ediv_of_nonneg (by omega)
  unfold drI
  rw [h2, h3]
  split
  · omega
  · split
    · omega
    · split
      · split <;> omega
      · omega
def wtI (r : Roof) (w : Nat → Int) (c : Nat) : Nat → Int
  | 0 => w c
  | i + 1 => wtI r w c i - drI r i c (wtI r w c i)
theorem wtI_in (r : Roof) {w : Nat → Int} {c : Nat} (h : 0 ≤ w c ∧ w c ≤ 1000) : ∀ i, 0 ≤ wtI r w c i ∧ wtI r w c i ≤ 1000
  | 0 => h
  | i + 1 => by
    have ih := wtI_in r h i
    have := drI_in r i c ih.1
    simp only [wtI]; omega
def onR (r : Roof) (i c : Nat) : Prop := (i : Int) < r.h ∧ (c : Int) < 2 * r.w + 1
instance (r : Roof) (i c : Nat) : Decidable (onR r i c) := by unfold onR; exact inferInstance
/-- Of a roof and rain: what drips, what comes to each course, what comes to the gutter. -/
def dR (r : Roof) (w : Nat → Int) (i c : Nat) : Int := if onR r i c then drI r i c (wtI r w c i) else 0
def cmR (r : Roof) (w : Nat → Int) (i c : Nat) : Int := if onR r i c then wtI r w c i else 0
def gtL (r : Roof) (w : Nat → Int) (n : Nat) : List Int := (List.range n).map fun c => wtI r w c r.h.toNat
@[simp] theorem gtL_len (r : Roof) (w : Nat → Int) (n : Nat) : (gtL r w n).length = n := by simp [gtL]
theorem gtL_next (r : Roof) (w : Nat → Int) (n : Nat) : gtL r w (n + 1) = gtL r w n ++ [wtI r w n r.h.toNat] := by simp [gtL, List.range_succ]
theorem dR_in (r : Roof) {w : Nat → Int} (h : ∀ c, c < 17 → 0 ≤ w c ∧ w c ≤ 1000) {i c : Nat} (hc : c < 17) : 0 ≤ dR r w i c ∧ dR r w i c ≤ 1000 := by
  have h1 := wtI_in r (h c hc) i
  have h2 := drI_in r i c h1.1
  unfold dR; split <;> omega
/-- A table filled column by column. -/
def ptR (f : Nat → Nat → Int) (c i : Nat) : Nat → Nat → Int := fun i' c' => if c' < c ∨ (c' = c ∧ i' < i) then f i' c' else 0
theorem ptR_zero (f : Nat → Nat → Int) : ptR f 0 0 = fun _ _ => 0 := by funext i c; unfold ptR; rw [if_neg (by omega)]
theorem ptR_put {f : Nat → Nat → Int} {c i : Nat} : putM (ptR f c i) i c (f i c) = ptR f c (i + 1) := by
  funext i' c'
  unfold putM ptR
  by_cases h : i' = i ∧ c' = c
  · obtain ⟨rfl, rfl⟩ := h
    rw [if_pos ⟨rfl, rfl⟩, if_pos (by omega)]
  · rw [if_neg h]
    by_cases h2 : c' < c ∨ (c' = c ∧ i' < i)
    · rw [if_pos h2, if_pos (by omega)]
    · rw [if_neg h2, if_neg (by omega)]
theorem ptR_col {f : Nat → Nat → Int} {c n : Nat} (h : ∀ i, n ≤ i → f i c = 0) : ptR f c n = ptR f (c + 1) 0 := by
  funext i' c'
  unfold ptR
  by_cases h1 : c' < c
  · rw [if_pos (by omega), if_pos (by omega)]
  · by_cases h2 : c' = c
    · subst h2
      by_cases h3 : i' < n
      · rw [if_pos (by omega), if_pos (by omega)]
      · rw [if_neg (by omega), if_pos (by omega), h i' (by omega)]
    · rw [if_neg (by omega), if_neg (by omega)]
theorem ptR_all {f : Nat → Nat → Int} {n : Nat} (h : ∀ i c, n ≤ c → f i c = 0) : ptR f n 0 = f := by
  funext i' c'
  unfold ptR
  by_cases h1 : c' < n
  · rw [if_pos (by omega)]
  · rw [if_neg (by omega), h i' c' (by omega)]
/-- The cells of a struct whose head is a table. -/
def dripL (f : Nat → Nat → Int) : List D := (dripC f).map D.v
@[simp] theorem dripL_len (f : Nat → Nat → Int) : (dripL f).length = 136 := by simp [dripL]
theorem flowG {f : Nat → Nat → Int} {x y : D} : nth (dripL f ++ [x, y]) (0 + 136) = some x := by
  rw [nth_eq, List.getElem?_append_right (by simp)]; simp
theorem flowM {f : Nat → Nat → Int} {x y : D} : nth (dripL f ++ [x, y]) (0 + 137) = some y := by
  rw [nth_eq, List.getElem?_append_right (by simp)]; simp
theorem flow_set {f : Nat → Nat → Int} {x y : D} {o i c : Nat} {z : Int} (ho : o = i * 17 + c) (hi : i < 8) (hc : c < 17) : (dripL f ++ [x, y]).set o (.v (.int .i32 z)) = dripL (putM f i c z) ++ [x, y] := by
  rw [List.set_append_left _ _ (by simp; omega)]
  unfold dripL
  rw [← drip_set ho hi hc, List.map_set]
theorem flow_setG {f : Nat → Nat → Int} {x y d : D} : (dripL f ++ [x, y]).set (0 + 136) d = dripL f ++ [d, y] := by
  rw [List.set_append_right _ _ (by simp)]; simp
theorem plain_map : ∀ l : List Value, plainVals (l.map D.v) = some l
  | [] => rfl
  | x :: l => by simp only [List.map_cons, plainVals, plain_map l]
theorem flow_plain {f : Nat → Nat → Int} {x y : D} : plainVals (((dripL f ++ [x, y]).drop 0).take 136) = some (dripC f) := by
  rw [List.drop_zero, List.take_left' (by simp)]
  exact plain_map _
theorem mapO_app {α β : Type} {f : α → Option β} : ∀ {a b : List α} {x y : List β}, mapO f a = some x → mapO f b = some y → mapO f (a ++ b) = some (x ++ y)
  | [], b, x, y, h, h' => by
    simp only [mapO, Option.some.injEq] at h
    subst h
    simpa using h'
  | u :: a, b, x, y, h, h' => by
    simp only [mapO] at h
    split at h
    · rename_i v hv
      split at h
      · rename_i vs hvs
        simp only [Option.some.injEq] at h
        subst h
        simp only [List.cons_append, mapO, hv, mapO_app hvs h']
      · cases h
    · cases h
theorem mapO_vals {f : D → Option D} (hf : ∀ x, f (.v x) = some (.v x)) : ∀ l : List Value, mapO f (l.map D.v) = some (l.map D.v)
  | [] => rfl
  | x :: l => by simp only [List.map_cons, mapO, hf, mapO_vals hf l]
theorem renAgg {rn : Rn} {n : Nat} {ds ds' : List D} (h : mapO (renD rn n) ds = some ds') : renD rn (n + 1) (.agg ds) = some (.agg ds') := by
  rw [renD]; simp only [h]
theorem renFlow {rn : Rn} {f : Nat → Nat → Int} {x y x' y' : D} (hx : renD rn 11 x = some x') (hy : renD rn 11 y = some y') : renD rn depth (.agg (dripL f ++ [x, y])) = some (.agg (dripL f ++ [x', y'])) := by
  have h2 : mapO (renD rn 11) [x, y] = some [x', y'] := by
    rw [mapO, hx]
    dsimp only
    rw [mapO, hy]
    rfl
  exact renAgg (n := 11) (mapO_app (mapO_vals (f := renD rn 11) (fun x => by rw [renD]) _) h2)
theorem deepAgg {out : Bool} {bad : List Id} {m : Id → Option D} {n : Nat} {ds ds' : List D} (h : mapO (deep out bad m n) ds = some ds') : deep out bad m (n + 1) (.agg ds) = some (.agg ds') := by
  rw [deep]; simp only [h]
theorem deepFlow {out : Bool} {bad : List Id} {m : Id → Option D} {f : Nat → Nat → Int} {x y x' y' : D} (hx : deep out bad m 11 x = some x') (hy : deep out bad m 11 y = some y') : deep out bad m depth (.agg (dripL f ++ [x, y])) = some (.agg (dripL f ++ [x', y'])) := by
  have h2 : mapO (deep out bad m 11) [x, y] = some [x', y'] := by
    rw [mapO, hx]
    dsimp only
    rw [mapO, hy]
    rfl
  exact deepAgg (n := 11) (mapO_app (mapO_vals (f := deep out bad m 11) (fun x => by rw [deep]) _) h2)
theorem expFlow {bad : List Id} {m : Id → Option D} {f : Nat → Nat → Int} {x y x' y' : D} (hx : deep true bad m 11 x = some x') (hy : deep true bad m 11 y = some y') : mapO (expD bad m) [.agg (dripL f ++ [x, y])] = some [.agg (dripL f ++ [x', y'])] := by
  have h : expD bad m (.agg (dripL f ++ [x, y])) = some (.agg (dripL f ++ [x', y'])) := deepFlow hx hy
  rw [mapO, h]
  rfl
theorem end138 {x y : List D} (hx : x.length = 138) (hy : y.length = 138) : List.take 138 (List.drop 0 (splice x 0 (List.take 138 (List.drop 0 y)))) = y := by
  have hs : splice x 0 y = y := by
    unfold splice
    rw [List.take_zero, List.nil_append, List.drop_of_length_le (by omega), List.append_nil]
  rw [List.drop_zero, List.drop_zero, take_full (l := y) (by omega), hs, take_full (by omega)]
end Go.V
namespace Go.Proofs.Ytndlknhakdadjaa
open Go.V
theorem mapOkP : MapOk Try.prog 199 := by
  have p0 : ∀ (w : World) (a b : Int), (part 22 ⟨[.int .i8 a, .int .i8 b]⟩ 0).run Try.prog w = .ok (.int .i8 a) w := fun w a b => by
    simp [part, run_isAgg tOk (t := 22) (i := ti22) rfl, TI.isAgg, ti22]
  have p1 : ∀ (w : World) (a b : Int), (part 22 ⟨[.int .i8 a, .int .i8 b]⟩ 1).run Try.prog w = .ok (.int .i8 b) w := fun w a b => by
    simp [part, run_isAgg tOk (t := 22) (i := ti22) rfl, TI.isAgg, ti22]
  have ck : ∀ (w : World) (a : Int), (Instr.checkKey false 9999 22 (.int .i8 a)).run Try.prog w = .ok () w := fun w a => by
    unfold Instr.checkKey; simp [run_under Try.underlying22]
  have eq : ∀ (w : World) (a a' : Int), (Op.equalIn 9999 22 (.int .i8 a) (.int .i8 a')).run Try.prog w = .ok (a == a') w := fun w a a' => by
    unfold Op.equalIn; simp [run_under Try.underlying22]
  refine ⟨_, _, _, Try.underlying199, Try.underlying109, fun w a b => ?_, fun w a b a' b' => ?_⟩
  · unfold Instr.checkKey
    simp only [Sem.run_bind, run_under Try.underlying109, Result.andThen_ok]
    simp [p0, p1, ck]
  · unfold Op.equal Op.maxDepth Op.equalIn
    simp only [Sem.run_bind, run_under Try.underlying109, Result.andThen_ok]
    simp only [Bool.exists_bool]
    by_cases h1 : a = a' <;> by_cases h2 : b = b' <;> simp [p0, p1, eq, h1, h2]
end Go.Proofs.Ytndlknhakdadjaa
/- Contracts: rain that runs down a roof, both sides. -/
set_option linter.unusedVariables false
set_option linter.unusedSimpArgs false
namespace Go.V
theorem congrArg2 {α β γ : Type} (f : α → β → γ) {a a' : α} {b b' : β} (h : a = a') (h' : b = b') : f a b = f a' b' := by rw [h, h']
theorem two136 {x y : List Value} (hx : x.length = 136) (hy : y.length = 136) : y = List.take 136 (List.drop 0 (splice x 0 (List.take 136 (List.drop 0 y)))) := by
  rw [List.drop_zero, List.drop_zero, take_full (l := y) (by omega), splice_all (by omega), take_full (by omega)]
end Go.V
namespace Go.Proofs.Ytndlknhakdadjaa
open Go.V
section
variable (r : Roof) (hr : r.In) (hb : (1 ≤ r.w ∧ r.w ≤ 8) ∧ (1 ≤ r.h ∧ r.h ≤ 8) ∧ r.s ≤ 1)
include hr hb
theorem sh_eq {i : Nat} (hi : i ≤ 1000) : (IntKind.i64.wrap ((i : Int) + IntKind.i64.wrap r.s)).tmod 2 = ((shN r i : Nat) : Int) := by
  have hs := hr.s
  rw [w64 (n := r.s) (by omega) (by omega), w64 (by omega) (by omega)]
  unfold shN
  have : (i : Int) + r.s = ((i + r.s.toNat : Nat) : Int) := by omega
  rw [this]
  rfl
theorem l01By_sat (i : Nat) (hi : i ≤ 1000) : Sat Try.prog 213 [.ref false (roofD r) 0, .v (.int .i64 i)] (.v (.int .i64 (shN r i : Nat))) := by
  refine sat_of_wp hMix tOk Try.func213 rfl rfl Try.ntmps213 rfl rfl Try.results213 (by kernel_rfl) ?_
  conv => whnf
  repeat (first | (refine And.intro (by first | exact Nat.le_of_ble_eq_true rfl | exact mapOkP | exact rfl | decide | omega | (simp [splice]; done) | (constructor <;> omega) | (simp [splice]; omega)) ?_; conv => whnf) | (refine optK_of (raiA (by omega)) ?_; conv => whnf) | (refine optK_of (raiA' (by omega)) ?_; conv => whnf) | (refine optK_of (dripA (by omega) (by omega)) ?_; conv => whnf) | (refine optK_of (roofN (by omega) (by omega)) ?_; conv => whnf) | (refine optK_of (gridN (by omega) (by omega)) ?_; conv => whnf) | (refine optK_of (flowG) ?_; conv => whnf) | (refine optK_of (flowM) ?_; conv => whnf) | (refine optK_of (intA (by omega)) ?_; conv => whnf) | (refine optK_of (intA' (by omega)) ?_; conv => whnf))
  rw [sh_eq r hr hb hi]
  first | refine ⟨rfl, _, rfl, ?_⟩ | refine ⟨_, rfl, ?_⟩
  rfl
theorem shift_sat (i : Nat) (hi : i ≤ 1000) : Sat Try.prog 206 [roofD r, .v (.int .i64 i)] (.v (.int .i64 (shN r i : Nat))) := by
  refine sat_of_wp hMix tOk Try.func206 rfl rfl Try.ntmps206 rfl rfl Try.results206 (by kernel_rfl) ?_
  conv => whnf
  repeat (first | (refine And.intro (by first | exact Nat.le_of_ble_eq_true rfl | exact mapOkP | exact rfl | decide | omega | (simp [splice]; done) | (constructor <;> omega) | (simp [splice]; omega)) ?_; conv => whnf) | (refine optK_of (raiA (by omega)) ?_; conv => whnf) | (refine optK_of (raiA' (by omega)) ?_; conv => whnf) | (refine optK_of (dripA (by omega) (by omega)) ?_; conv => whnf) | (refine optK_of (roofN (by omega) (by omega)) ?_; conv => whnf) | (refine optK_of (gridN (by omega) (by omega)) ?_; conv => whnf) | (refine optK_of (flowG) ?_; conv => whnf) | (refine optK_of (flowM) ?_; conv => whnf) | (refine optK_of (intA (by omega)) ?_; conv => whnf) | (refine optK_of (intA' (by omega)) ?_; conv => whnf))
  rw [sh_eq r hr hb hi]
  first | refine ⟨rfl, _, rfl, ?_⟩ | refine ⟨_, rfl, ?_⟩
  rfl
theorem l01Cells_sat : Sat Try.prog 89 [.ref false (roofD r) 0] (.v (.int .i64 (2 * r.w + 1))) := by
  have hw := hr.w
  refine sat_of_wp hMix tOk Try.func89 rfl rfl Try.ntmps89 rfl rfl Try.results89 (by kernel_rfl) ?_
  conv => whnf
  repeat (first | (refine And.intro (by first | exact Nat.le_of_ble_eq_true rfl | exact mapOkP | exact rfl | decide | omega | (simp [splice]; done) | (constructor <;> omega) | (simp [splice]; omega)) ?_; conv => whnf) | (refine optK_of (raiA (by omega)) ?_; conv => whnf) | (refine optK_of (raiA' (by omega)) ?_; conv => whnf) | (refine optK_of (dripA (by omega) (by omega)) ?_; conv => whnf) | (refine optK_of (roofN (by omega) (by omega)) ?_; conv => whnf) | (refine optK_of (gridN (by omega) (by omega)) ?_; conv => whnf) | (refine optK_of (flowG) ?_; conv => whnf) | (refine optK_of (flowM) ?_; conv => whnf) | (refine optK_of (intA (by omega)) ?_; conv => whnf) | (refine optK_of (intA' (by omega)) ?_; conv => whnf))
  rw [show IntKind.i64.wrap r.w = r.w from w64 (by omega) (by omega), show IntKind.i64.wrap (2 * r.w) = 2 * r.w from w64 (by omega) (by omega), show IntKind.i64.wrap (2 * r.w + 1) = 2 * r.w + 1 from w64 (by omega) (by omega)]
  first | refine ⟨rfl, _, rfl, ?_⟩ | refine ⟨_, rfl, ?_⟩
  rfl
theorem cells_sat : Sat Try.prog 95 [roofD r] (.v (.int .i64 (2 * r.w + 1))) := by
  have hw := hr.w
  refine sat_of_wp hMix tOk Try.func95 rfl rfl Try.ntmps95 rfl rfl Try.results95 (by kernel_rfl) ?_
  conv => whnf
  repeat (first | (refine And.intro (by first | exact Nat.le_of_ble_eq_true rfl | exact mapOkP | exact rfl | decide | omega | (simp [splice]; done) | (constructor <;> omega) | (simp [splice]; omega)) ?_; conv => whnf) | (refine optK_of (raiA (by omega)) ?_; conv => whnf) | (refine optK_of (raiA' (by omega)) ?_; conv => whnf) | (refine optK_of (dripA (by omega) (by omega)) ?_; conv => whnf) | (refine optK_of (roofN (by omega) (by omega)) ?_; conv => whnf) | (refine optK_of (gridN (by omega) (by omega)) ?_; conv => whnf) | (refine optK_of (flowG) ?_; conv => whnf) | (refine optK_of (flowM) ?_; conv => whnf) | (refine optK_of (intA (by omega)) ?_; conv => whnf) | (refine optK_of (intA' (by omega)) ?_; conv => whnf))
  rw [show IntKind.i64.wrap r.w = r.w from w64 (by omega) (by omega), show IntKind.i64.wrap (2 * r.w) = 2 * r.w from w64 (by omega) (by omega), show IntKind.i64.wrap (2 * r.w + 1) = 2 * r.w + 1 from w64 (by omega) (by omega)]
  first | refine ⟨rfl, _, rfl, ?_⟩ | refine ⟨_, rfl, ?_⟩
  rfl
theorem l01Tile_sat (i c : Nat) (hi : i ≤ 1000) (hc : c < 17) : Sat Try.prog 211 [.ref false (roofD r) 0, .v (.int .i64 i), .v (.int .i64 c)] (.v (.int .i64 (tlI r i c))) := by
  have hw := hr.w
  have hsh : shN r i < 2 := Nat.mod_lt _ (by omega)
  have ew : IntKind.i64.wrap r.w = r.w := w64 (by omega) (by omega)
  refine sat_of_wp hMix tOk Try.func211 rfl rfl Try.ntmps211 rfl rfl Try.results211 (by kernel_rfl) ?_
  conv => whnf
  repeat (first | (refine And.intro (by first | exact Nat.le_of_ble_eq_true rfl | exact mapOkP | exact rfl | decide | omega | (simp [splice]; done) | (constructor <;> omega) | (simp [splice]; omega)) ?_; conv => whnf) | (refine optK_of (raiA (by omega)) ?_; conv => whnf) | (refine optK_of (raiA' (by omega)) ?_; conv => whnf) | (refine optK_of (dripA (by omega) (by omega)) ?_; conv => whnf) | (refine optK_of (roofN (by omega) (by omega)) ?_; conv => whnf) | (refine optK_of (gridN (by omega) (by omega)) ?_; conv => whnf) | (refine optK_of (flowG) ?_; conv => whnf) | (refine optK_of (flowM) ?_; conv => whnf) | (refine optK_of (intA (by omega)) ?_; conv => whnf) | (refine optK_of (intA' (by omega)) ?_; conv => whnf))
  first | refine ⟨_, _, rfl, Sat.of_eq (l01By_sat r hr hb i hi) (by repeat (first | rfl | exact vfull (by first | (simp [splice]; done) | (simp [splice]; omega)) | exact rfull (by first | (simp [splice]; done) | (simp [splice]; omega)) | exact vplace (by simp; done) (by omega) | exact vrow (by simp; done) (by omega) | exact vtiles (by simp) | exact vsplice (by simp) (by simp) | refine ceq ?_ ?_ | refine Eq.trans (vsplice (by first | (simp; done) | (simp; omega)) (by first | (simp; done) | (simp; omega))) ?_)), ?_⟩ | refine .inl ⟨_, _, rfl, Sat.of_eq (l01By_sat r hr hb i hi) (by repeat (first | rfl | exact vfull (by first | (simp [splice]; done) | (simp [splice]; omega)) | exact rfull (by first | (simp [splice]; done) | (simp [splice]; omega)) | exact vplace (by simp; done) (by omega) | exact vrow (by simp; done) (by omega) | exact vtiles (by simp) | exact vsplice (by simp) (by simp) | refine ceq ?_ ?_ | refine Eq.trans (vsplice (by first | (simp; done) | (simp; omega)) (by first | (simp; done) | (simp; omega))) ?_)), ?_⟩
  conv => whnf
  repeat (first | (refine And.intro (by first | exact Nat.le_of_ble_eq_true rfl | exact mapOkP | exact rfl | decide | omega | (simp [splice]; done) | (constructor <;> omega) | (simp [splice]; omega)) ?_; conv => whnf) | (refine optK_of (raiA (by omega)) ?_; conv => whnf) | (refine optK_of (raiA' (by omega)) ?_; conv => whnf) | (refine optK_of (dripA (by omega) (by omega)) ?_; conv => whnf) | (refine optK_of (roofN (by omega) (by omega)) ?_; conv => whnf) | (refine optK_of (gridN (by omega) (by omega)) ?_; conv => whnf) | (refine optK_of (flowG) ?_; conv => whnf) | (refine optK_of (flowM) ?_; conv => whnf) | (refine optK_of (intA (by omega)) ?_; conv => whnf) | (refine optK_of (intA' (by omega)) ?_; conv => whnf))
  generalize hse : shN r i = s at *
  have e1 : IntKind.i64.wrap ((c : Int) - (s : Int)) = (c : Int) - s := w64 (by omega) (by omega)
  rw [e1]
  cases h1 : decide ((c : Int) - (s : Int) < 0)
  case true =>
    rw [show tlI r i c = -1 by unfold tlI; rw [hse, if_pos (by simp at h1; omega)]]
    conv => whnf
    repeat (first | (refine And.intro (by first | exact Nat.le_of_ble_eq_true rfl | exact mapOkP | exact rfl | decide | omega | (simp [splice]; done) | (constructor <;> omega) | (simp [splice]; omega)) ?_; conv => whnf) | (refine optK_of (raiA (by omega)) ?_; conv => whnf) | (refine optK_of (raiA' (by omega)) ?_; conv => whnf) | (refine optK_of (dripA (by omega) (by omega)) ?_; conv => whnf) | (refine optK_of (roofN (by omega) (by omega)) ?_; conv => whnf) | (refine optK_of (gridN (by omega) (by omega)) ?_; conv => whnf) | (refine optK_of (flowG) ?_; conv => whnf) | (refine optK_of (flowM) ?_; conv => whnf) | (refine optK_of (intA (by omega)) ?_; conv => whnf) | (refine optK_of (intA' (by omega)) ?_; conv => whnf))
    first | refine ⟨rfl, _, rfl, ?_⟩ | refine ⟨_, rfl, ?_⟩
    rfl
  have hcs : s ≤ c := by simp at h1; omega
  have e2 : IntKind.i64.wrap (((c : Int) - (s : Int)).tdiv 2) = (((c - s) / 2 : Nat) : Int) := by
    rw [show (c : Int) - s = ((c - s : Nat) : Int) by omega]
    rw [show (((c - s : Nat) : Int)).tdiv 2 = (((c - s) / 2 : Nat) : Int) from rfl, w64 (by omega) (by omega)]
  conv => whnf
  repeat (first | (refine And.intro (by first | exact Nat.le_of_ble_eq_true rfl | exact mapOkP | exact rfl | decide | omega | (simp [splice]; done) | (constructor <;> omega) | (simp [splice]; omega)) ?_; conv => whnf) | (refine optK_of (raiA (by omega)) ?_; conv => whnf) | (refine optK_of (raiA' (by omega)) ?_; conv => whnf) | (refine optK_of (dripA (by omega) (by omega)) ?_; conv => whnf) | (refine optK_of (roofN (by omega) (by omega)) ?_; conv => whnf) | (refine optK_of (gridN (by omega) (by omega)) ?_; conv => whnf) | (refine optK_of (flowG) ?_; conv => whnf) | (refine optK_of (flowM) ?_; conv => whnf) | (refine optK_of (intA (by omega)) ?_; conv => whnf) | (refine optK_of (intA' (by omega)) ?_; conv => whnf))
  rw [e2, ew]
  cases h2 : decide ((((c - s) / 2 : Nat) : Int) ≥ r.w)
  case true =>
    rw [show tlI r i c = -1 by unfold tlI; rw [hse, if_neg (by omega), if_neg (by simp at h2; omega)]]
    conv => whnf
    repeat (first | (refine And.intro (by first | exact Nat.le_of_ble_eq_true rfl | exact mapOkP | exact rfl | decide | omega | (simp [splice]; done) | (constructor <;> omega) | (simp [splice]; omega)) ?_; conv => whnf) | (refine optK_of (raiA (by omega)) ?_; conv => whnf) | (refine optK_of (raiA' (by omega)) ?_; conv => whnf) | (refine optK_of (dripA (by omega) (by omega)) ?_; conv => whnf) | (refine optK_of (roofN (by omega) (by omega)) ?_; conv => whnf) | (refine optK_of (gridN (by omega) (by omega)) ?_; conv => whnf) | (refine optK_of (flowG) ?_; conv => whnf) | (refine optK_of (flowM) ?_; conv => whnf) | (refine optK_of (intA (by omega)) ?_; conv => whnf) | (refine optK_of (intA' (by omega)) ?_; conv => whnf))
    first | refine ⟨rfl, _, rfl, ?_⟩ | refine ⟨_, rfl, ?_⟩
    rfl
  rw [show tlI r i c = (((c - s) / 2 : Nat) : Int) by unfold tlI; rw [hse, if_neg (by omega), if_pos (by simp at h2; omega)]]
  conv => whnf
  repeat (first | (refine And.intro (by first | exact Nat.le_of_ble_eq_true rfl | exact mapOkP | exact rfl | decide | omega | (simp [splice]; done) | (constructor <;> omega) | (simp [splice]; omega)) ?_; conv => whnf) | (refine optK_of (raiA (by omega)) ?_; conv => whnf) | (refine optK_of (raiA' (by omega)) ?_; conv => whnf) | (refine optK_of (dripA (by omega) (by omega)) ?_; conv => whnf) | (refine optK_of (roofN (by omega) (by omega)) ?_; conv => whnf) | (refine optK_of (gridN (by omega) (by omega)) ?_; conv => whnf) | (refine optK_of (flowG) ?_; conv => whnf) | (refine optK_of (flowM) ?_; conv => whnf) | (refine optK_of (intA (by omega)) ?_; conv => whnf) | (refine optK_of (intA' (by omega)) ?_; conv => whnf))
  first | refine ⟨rfl, _, rfl, ?_⟩ | refine ⟨_, rfl, ?_⟩
  skip
  rw [e2]; rfl
theorem tileAt_sat (i c : Nat) (hi : i ≤ 1000) (hc : c < 17) : Sat Try.prog 190 [roofD r, .v (.int .i64 i), .v (.int .i64 c)] (.v (.int .i64 (tlI r i c))) := by
  have hw := hr.w
  have hsh : shN r i < 2 := Nat.mod_lt _ (by omega)
  have ew : IntKind.i64.wrap r.w = r.w := w64 (by omega) (by omega)
  have ew2 : IntKind.i64.wrap (2 * r.w) = 2 * r.w := w64 (by omega) (by omega)
  have ew3 : IntKind.i64.wrap (2 * r.w - 1) = 2 * r.w - 1 := w64 (by omega) (by omega)
  refine sat_of_wp hMix tOk Try.func190 rfl rfl Try.ntmps190 rfl rfl Try.results190 (by kernel_rfl) ?_
  conv => whnf
  repeat (first | (refine And.intro (by first | exact Nat.le_of_ble_eq_true rfl | exact mapOkP | exact rfl | decide | omega | (simp [splice]; done) | (constructor <;> omega) | (simp [splice]; omega)) ?_; conv => whnf) | (refine optK_of (raiA (by omega)) ?_; conv => whnf) | (refine optK_of (raiA' (by omega)) ?_; conv => whnf) | (refine optK_of (dripA (by omega) (by omega)) ?_; conv => whnf) | (refine optK_of (roofN (by omega) (by omega)) ?_; conv => whnf) | (refine optK_of (gridN (by omega) (by omega)) ?_; conv => whnf) | (refine optK_of (flowG) ?_; conv => whnf) | (refine optK_of (flowM) ?_; conv => whnf) | (refine optK_of (intA (by omega)) ?_; conv => whnf) | (refine optK_of (intA' (by omega)) ?_; conv => whnf))
  first | refine ⟨_, _, rfl, Sat.of_eq (shift_sat r hr hb i hi) (by repeat (first | rfl | exact vfull (by first | (simp [splice]; done) | (simp [splice]; omega)) | exact rfull (by first | (simp [splice]; done) | (simp [splice]; omega)) | exact vplace (by simp; done) (by omega) | exact vrow (by simp; done) (by omega) | exact vtiles (by simp) | exact vsplice (by simp) (by simp) | refine ceq ?_ ?_ | refine Eq.trans (vsplice (by first | (simp; done) | (simp; omega)) (by first | (simp; done) | (simp; omega))) ?_)), ?_⟩ | refine .inl ⟨_, _, rfl, Sat.of_eq (shift_sat r hr hb i hi) (by repeat (first | rfl | exact vfull (by first | (simp [splice]; done) | (simp [splice]; omega)) | exact rfull (by first | (simp [splice]; done) | (simp [splice]; omega)) | exact vplace (by simp; done) (by omega) | exact vrow (by simp; done) (by omega) | exact vtiles (by simp) | exact vsplice (by simp) (by simp) | refine ceq ?_ ?_ | refine Eq.trans (vsplice (by first | (simp; done) | (simp; omega)) (by first | (simp; done) | (simp; omega))) ?_)), ?_⟩
  conv => whnf
  repeat (first | (refine And.intro (by first | exact Nat.le_of_ble_eq_true rfl | exact mapOkP | exact rfl | decide | omega | (simp [splice]; done) | (constructor <;> omega) | (simp [splice]; omega)) ?_; conv => whnf) | (refine optK_of (raiA (by omega)) ?_; conv => whnf) | (refine optK_of (raiA' (by omega)) ?_; conv => whnf) | (refine optK_of (dripA (by omega) (by omega)) ?_; conv => whnf) | (refine optK_of (roofN (by omega) (by omega)) ?_; conv => whnf) | (refine optK_of (gridN (by omega) (by omega)) ?_; conv => whnf) | (refine optK_of (flowG) ?_; conv => whnf) | (refine optK_of (flowM) ?_; conv => whnf) | (refine optK_of (intA (by omega)) ?_; conv => whnf) | (refine optK_of (intA' (by omega)) ?_; conv => whnf))
  generalize hse : shN r i = s at *
  have e1 : IntKind.i64.wrap ((c : Int) - (s : Int)) = (c : Int) - s := w64 (by omega) (by omega)
  rw [e1, ew, ew2, ew3]
  first | refine ⟨_, _, rfl, Sat.of_eq (withinInt_sat _ _ _) (by repeat (first | rfl | exact vfull (by first | (simp [splice]; done) | (simp [splice]; omega)) | exact rfull (by first | (simp [splice]; done) | (simp [splice]; omega)) | exact vplace (by simp; done) (by omega) | exact vrow (by simp; done) (by omega) | exact vtiles (by simp) | exact vsplice (by simp) (by simp) | refine ceq ?_ ?_ | refine Eq.trans (vsplice (by first | (simp; done) | (simp; omega)) (by first | (simp; done) | (simp; omega))) ?_)), ?_⟩ | refine .inl ⟨_, _, rfl, Sat.of_eq (withinInt_sat _ _ _) (by repeat (first | rfl | exact vfull (by first | (simp [splice]; done) | (simp [splice]; omega)) | exact rfull (by first | (simp [splice]; done) | (simp [splice]; omega)) | exact vplace (by simp; done) (by omega) | exact vrow (by simp; done) (by omega) | exact vtiles (by simp) | exact vsplice (by simp) (by simp) | refine ceq ?_ ?_ | refine Eq.trans (vsplice (by first | (simp; done) | (simp; omega)) (by first | (simp; done) | (simp; omega))) ?_)), ?_⟩
  conv => whnf
  repeat (first | (refine And.intro (by first | exact Nat.le_of_ble_eq_true rfl | exact mapOkP | exact rfl | decide | omega | (simp [splice]; done) | (constructor <;> omega) | (simp [splice]; omega)) ?_; conv => whnf) | (refine optK_of (raiA (by omega)) ?_; conv => whnf) | (refine optK_of (raiA' (by omega)) ?_; conv => whnf) | (refine optK_of (dripA (by omega) (by omega)) ?_; conv => whnf) | (refine optK_of (roofN (by omega) (by omega)) ?_; conv => whnf) | (refine optK_of (gridN (by omega) (by omega)) ?_; conv => whnf) | (refine optK_of (flowG) ?_; conv => whnf) | (refine optK_of (flowM) ?_; conv => whnf) | (refine optK_of (intA (by omega)) ?_; conv => whnf) | (refine optK_of (intA' (by omega)) ?_; conv => whnf))
  cases h1 : (decide (0 ≤ (c : Int) - (s : Int)) && decide ((c : Int) - (s : Int) ≤ 2 * r.w - 1))
  · have ht : tlI r i c = -1 := by
      unfold tlI
      rw [hse]
      by_cases hcs : c < s
      · rw [if_pos hcs]
      · rw [if_neg hcs, if_neg (by simp at h1; omega)]
    rw [ht]
    conv => whnf
    repeat (first | (refine And.intro (by first | exact Nat.le_of_ble_eq_true rfl | exact mapOkP | exact rfl | decide | omega | (simp [splice]; done) | (constructor <;> omega) | (simp [splice]; omega)) ?_; conv => whnf) | (refine optK_of (raiA (by omega)) ?_; conv => whnf) | (refine optK_of (raiA' (by omega)) ?_; conv => whnf) | (refine optK_of (dripA (by omega) (by omega)) ?_; conv => whnf) | (refine optK_of (roofN (by omega) (by omega)) ?_; conv => whnf) | (refine optK_of (gridN (by omega) (by omega)) ?_; conv => whnf) | (refine optK_of (flowG) ?_; conv => whnf) | (refine optK_of (flowM) ?_; conv => whnf) | (refine optK_of (intA (by omega)) ?_; conv => whnf) | (refine optK_of (intA' (by omega)) ?_; conv => whnf))
    first | refine ⟨rfl, _, rfl, ?_⟩ | refine ⟨_, rfl, ?_⟩
    rfl
  have hcs : s ≤ c := by simp at h1; omega
  have e2 : IntKind.i64.wrap (((c : Int) - (s : Int)).tdiv 2) = (((c - s) / 2 : Nat) : Int) := by
    rw [show (c : Int) - s = ((c - s : Nat) : Int) by omega]
    rw [show (((c - s : Nat) : Int)).tdiv 2 = (((c - s) / 2 : Nat) : Int) from rfl, w64 (by omega) (by omega)]
  rw [show tlI r i c = (((c - s) / 2 : Nat) : Int) by unfold tlI; rw [hse, if_neg (by omega), if_pos (by simp at h1; omega)]]
  conv => whnf
  repeat (first | (refine And.intro (by first | exact Nat.le_of_ble_eq_true rfl | exact mapOkP | exact rfl | decide | omega | (simp [splice]; done) | (constructor <;> omega) | (simp [splice]; omega)) ?_; conv => whnf) | (refine optK_of (raiA (by omega)) ?_; conv => whnf) | (refine optK_of (raiA' (by omega)) ?_; conv => whnf) | (refine optK_of (dripA (by omega) (by omega)) ?_; conv => whnf) | (refine optK_of (roofN (by omega) (by omega)) ?_; conv => whnf) | (refine optK_of (gridN (by omega) (by omega)) ?_; conv => whnf) | (refine optK_of (flowG) ?_; conv => whnf) | (refine optK_of (flowM) ?_; conv => whnf) | (refine optK_of (intA (by omega)) ?_; conv => whnf) | (refine optK_of (intA' (by omega)) ?_; conv => whnf))
  first | refine ⟨rfl, _, rfl, ?_⟩ | refine ⟨_, rfl, ?_⟩
  skip
  rw [e2]; rfl
theorem l02Over_sat (i c : Nat) (hi : i < 8) (hc : c < 17) : Sat Try.prog 205 [.ref false (roofD r) 0, .v (.int .i64 i), .v (.int .i64 c)] (.v (.int .i64 (ovI r i c))) := by
  have htl := tlI_range r i c
  refine sat_of_wp hMix tOk Try.func205 rfl rfl Try.ntmps205 rfl rfl Try.results205 (by kernel_rfl) ?_
  conv => whnf
  repeat (first | (refine And.intro (by first | exact Nat.le_of_ble_eq_true rfl | exact mapOkP | exact rfl | decide | omega | (simp [splice]; done) | (constructor <;> omega) | (simp [splice]; omega)) ?_; conv => whnf) | (refine optK_of (raiA (by omega)) ?_; conv => whnf) | (refine optK_of (raiA' (by omega)) ?_; conv => whnf) | (refine optK_of (dripA (by omega) (by omega)) ?_; conv => whnf) | (refine optK_of (roofN (by omega) (by omega)) ?_; conv => whnf) | (refine optK_of (gridN (by omega) (by omega)) ?_; conv => whnf) | (refine optK_of (flowG) ?_; conv => whnf) | (refine optK_of (flowM) ?_; conv => whnf) | (refine optK_of (intA (by omega)) ?_; conv => whnf) | (refine optK_of (intA' (by omega)) ?_; conv => whnf))
  first | refine ⟨_, _, rfl, Sat.of_eq (l01Tile_sat r hr hb i c (by omega) hc) (by repeat (first | rfl | exact vfull (by first | (simp [splice]; done) | (simp [splice]; omega)) | exact rfull (by first | (simp [splice]; done) | (simp [splice]; omega)) | exact vplace (by simp; done) (by omega) | exact vrow (by simp; done) (by omega) | exact vtiles (by simp) | exact vsplice (by simp) (by simp) | refine ceq ?_ ?_ | refine Eq.trans (vsplice (by first | (simp; done) | (simp; omega)) (by first | (simp; done) | (simp; omega))) ?_)), ?_⟩ | refine .inl ⟨_, _, rfl, Sat.of_eq (l01Tile_sat r hr hb i c (by omega) hc) (by repeat (first | rfl | exact vfull (by first | (simp [splice]; done) | (simp [splice]; omega)) | exact rfull (by first | (simp [splice]; done) | (simp [splice]; omega)) | exact vplace (by simp; done) (by omega) | exact vrow (by simp; done) (by omega) | exact vtiles (by simp) | exact vsplice (by simp) (by simp) | refine ceq ?_ ?_ | refine Eq.trans (vsplice (by first | (simp; done) | (simp; omega)) (by first | (simp; done) | (simp; omega))) ?_)), ?_⟩
  conv => whnf
  repeat (first | (refine And.intro (by first | exact Nat.le_of_ble_eq_true rfl | exact mapOkP | exact rfl | decide | omega | (simp [splice]; done) | (constructor <;> omega) | (simp [splice]; omega)) ?_; conv => whnf) | (refine optK_of (raiA (by omega)) ?_; conv => whnf) | (refine optK_of (raiA' (by omega)) ?_; conv => whnf) | (refine optK_of (dripA (by omega) (by omega)) ?_; conv => whnf) | (refine optK_of (roofN (by omega) (by omega)) ?_; conv => whnf) | (refine optK_of (gridN (by omega) (by omega)) ?_; conv => whnf) | (refine optK_of (flowG) ?_; conv => whnf) | (refine optK_of (flowM) ?_; conv => whnf) | (refine optK_of (intA (by omega)) ?_; conv => whnf) | (refine optK_of (intA' (by omega)) ?_; conv => whnf))
  cases h1 : decide (tlI r i c < 0)
  case true =>
    rw [show ovI r i c = 0 by unfold ovI; rw [if_pos (by simpa using h1)]]
    conv => whnf
    repeat (first | (refine And.intro (by first | exact Nat.le_of_ble_eq_true rfl | exact mapOkP | exact rfl | decide | omega | (simp [splice]; done) | (constructor <;> omega) | (simp [splice]; omega)) ?_; conv => whnf) | (refine optK_of (raiA (by omega)) ?_; conv => whnf) | (refine optK_of (raiA' (by omega)) ?_; conv => whnf) | (refine optK_of (dripA (by omega) (by omega)) ?_; conv => whnf) | (refine optK_of (roofN (by omega) (by omega)) ?_; conv => whnf) | (refine optK_of (gridN (by omega) (by omega)) ?_; conv => whnf) | (refine optK_of (flowG) ?_; conv => whnf) | (refine optK_of (flowM) ?_; conv => whnf) | (refine optK_of (intA (by omega)) ?_; conv => whnf) | (refine optK_of (intA' (by omega)) ?_; conv => whnf))
    first | refine ⟨rfl, _, rfl, ?_⟩ | refine ⟨_, rfl, ?_⟩
    rfl
  have h1' : ¬ tlI r i c < 0 := by simpa using h1
  have ho : ovI r i c = r.t i (tlI r i c).toNat := by unfold ovI; rw [if_neg h1']
  obtain ⟨k, hk⟩ := eq_toNat (x := tlI r i c) (by omega)
  rw [hk] at htl ho ⊢
  rw [Int.toNat_natCast] at ho
  have ht := hr.t i k
  rw [ho]
  conv => whnf
  repeat (first | (refine And.intro (by first | exact Nat.le_of_ble_eq_true rfl | exact mapOkP | exact rfl | decide | omega | (simp [splice]; done) | (constructor <;> omega) | (simp [splice]; omega)) ?_; conv => whnf) | (refine optK_of (raiA (by omega)) ?_; conv => whnf) | (refine optK_of (raiA' (by omega)) ?_; conv => whnf) | (refine optK_of (dripA (by omega) (by omega)) ?_; conv => whnf) | (refine optK_of (roofN (by omega) (by omega)) ?_; conv => whnf) | (refine optK_of (gridN (by omega) (by omega)) ?_; conv => whnf) | (refine optK_of (flowG) ?_; conv => whnf) | (refine optK_of (flowM) ?_; conv => whnf) | (refine optK_of (intA (by omega)) ?_; conv => whnf) | (refine optK_of (intA' (by omega)) ?_; conv => whnf))
  first | refine ⟨rfl, _, rfl, ?_⟩ | refine ⟨_, rfl, ?_⟩
  skip
  rw [show IntKind.i64.wrap (r.t i k) = r.t i k from w64 (by omega) (by omega)]; rfl
theorem covering_sat (i c : Nat) (hi : i < 8) (hc : c < 17) : Sat Try.prog 192 [roofD r, .v (.int .i64 i), .v (.int .i64 c)] (.v (.int .u8 (ovI r i c))) := by
  have htl := tlI_range r i c
  refine sat_of_wp hMix tOk Try.func192 rfl rfl Try.ntmps192 rfl rfl Try.results192 (by kernel_rfl) ?_
  conv => whnf
  repeat (first | (refine And.intro (by first | exact Nat.le_of_ble_eq_true rfl | exact mapOkP | exact rfl | decide | omega | (simp [splice]; done) | (constructor <;> omega) | (simp [splice]; omega)) ?_; conv => whnf) | (refine optK_of (raiA (by omega)) ?_; conv => whnf) | (refine optK_of (raiA' (by omega)) ?_; conv => whnf) | (refine optK_of (dripA (by omega) (by omega)) ?_; conv => whnf) | (refine optK_of (roofN (by omega) (by omega)) ?_; conv => whnf) | (refine optK_of (gridN (by omega) (by omega)) ?_; conv => whnf) | (refine optK_of (flowG) ?_; conv => whnf) | (refine optK_of (flowM) ?_; conv => whnf) | (refine optK_of (intA (by omega)) ?_; conv => whnf) | (refine optK_of (intA' (by omega)) ?_; conv => whnf))
  cases h0 : decide ((i : Int) < 0)
  case true => simp at h0; omega
  conv => whnf
  repeat (first | (refine And.intro (by first | exact Nat.le_of_ble_eq_true rfl | exact mapOkP | exact rfl | decide | omega | (simp [splice]; done) | (constructor <;> omega) | (simp [splice]; omega)) ?_; conv => whnf) | (refine optK_of (raiA (by omega)) ?_; conv => whnf) | (refine optK_of (raiA' (by omega)) ?_; conv => whnf) | (refine optK_of (dripA (by omega) (by omega)) ?_; conv => whnf) | (refine optK_of (roofN (by omega) (by omega)) ?_; conv => whnf) | (refine optK_of (gridN (by omega) (by omega)) ?_; conv => whnf) | (refine optK_of (flowG) ?_; conv => whnf) | (refine optK_of (flowM) ?_; conv => whnf) | (refine optK_of (intA (by omega)) ?_; conv => whnf) | (refine optK_of (intA' (by omega)) ?_; conv => whnf))
  first | refine ⟨_, _, rfl, Sat.of_eq (tileAt_sat r hr hb i c (by omega) hc) (by repeat (first | rfl | exact vfull (by first | (simp [splice]; done) | (simp [splice]; omega)) | exact rfull (by first | (simp [splice]; done) | (simp [splice]; omega)) | exact vplace (by simp; done) (by omega) | exact vrow (by simp; done) (by omega) | exact vtiles (by simp) | exact vsplice (by simp) (by simp) | refine ceq ?_ ?_ | refine Eq.trans (vsplice (by first | (simp; done) | (simp; omega)) (by first | (simp; done) | (simp; omega))) ?_)), ?_⟩ | refine .inl ⟨_, _, rfl, Sat.of_eq (tileAt_sat r hr hb i c (by omega) hc) (by repeat (first | rfl | exact vfull (by first | (simp [splice]; done) | (simp [splice]; omega)) | exact rfull (by first | (simp [splice]; done) | (simp [splice]; omega)) | exact vplace (by simp; done) (by omega) | exact vrow (by simp; done) (by omega) | exact vtiles (by simp) | exact vsplice (by simp) (by simp) | refine ceq ?_ ?_ | refine Eq.trans (vsplice (by first | (simp; done) | (simp; omega)) (by first | (simp; done) | (simp; omega))) ?_)), ?_⟩
  conv => whnf
  repeat (first | (refine And.intro (by first | exact Nat.le_of_ble_eq_true rfl | exact mapOkP | exact rfl | decide | omega | (simp [splice]; done) | (constructor <;> omega) | (simp [splice]; omega)) ?_; conv => whnf) | (refine optK_of (raiA (by omega)) ?_; conv => whnf) | (refine optK_of (raiA' (by omega)) ?_; conv => whnf) | (refine optK_of (dripA (by omega) (by omega)) ?_; conv => whnf) | (refine optK_of (roofN (by omega) (by omega)) ?_; conv => whnf) | (refine optK_of (gridN (by omega) (by omega)) ?_; conv => whnf) | (refine optK_of (flowG) ?_; conv => whnf) | (refine optK_of (flowM) ?_; conv => whnf) | (refine optK_of (intA (by omega)) ?_; conv => whnf) | (refine optK_of (intA' (by omega)) ?_; conv => whnf))
  cases h1 : (tlI r i c == -1)
  case true =>
    rw [show ovI r i c = 0 by unfold ovI; rw [if_pos (by simp at h1; omega)]]
    conv => whnf
    repeat (first | (refine And.intro (by first | exact Nat.le_of_ble_eq_true rfl | exact mapOkP | exact rfl | decide | omega | (simp [splice]; done) | (constructor <;> omega) | (simp [splice]; omega)) ?_; conv => whnf) | (refine optK_of (raiA (by omega)) ?_; conv => whnf) | (refine optK_of (raiA' (by omega)) ?_; conv => whnf) | (refine optK_of (dripA (by omega) (by omega)) ?_; conv => whnf) | (refine optK_of (roofN (by omega) (by omega)) ?_; conv => whnf) | (refine optK_of (gridN (by omega) (by omega)) ?_; conv => whnf) | (refine optK_of (flowG) ?_; conv => whnf) | (refine optK_of (flowM) ?_; conv => whnf) | (refine optK_of (intA (by omega)) ?_; conv => whnf) | (refine optK_of (intA' (by omega)) ?_; conv => whnf))
    first | refine ⟨rfl, _, rfl, ?_⟩ | refine ⟨_, rfl, ?_⟩
    rfl
  have h1' : ¬ tlI r i c < 0 := by
    have : ¬ tlI r i c = -1 := by simpa using h1
    omega
  have ho : ovI r i c = r.t i (tlI r i c).toNat := by unfold ovI; rw [if_neg h1']
  obtain ⟨k, hk⟩ := eq_toNat (x := tlI r i c) (by omega)
  rw [hk] at htl ho ⊢
  rw [Int.toNat_natCast] at ho
  rw [ho]
  conv => whnf
  repeat (first | (refine And.intro (by first | exact Nat.le_of_ble_eq_true rfl | exact mapOkP | exact rfl | decide | omega | (simp [splice]; done) | (constructor <;> omega) | (simp [splice]; omega)) ?_; conv => whnf) | (refine optK_of (raiA (by omega)) ?_; conv => whnf) | (refine optK_of (raiA' (by omega)) ?_; conv => whnf) | (refine optK_of (dripA (by omega) (by omega)) ?_; conv => whnf) | (refine optK_of (roofN (by omega) (by omega)) ?_; conv => whnf) | (refine optK_of (gridN (by omega) (by omega)) ?_; conv => whnf) | (refine optK_of (flowG) ?_; conv => whnf) | (refine optK_of (flowM) ?_; conv => whnf) | (refine optK_of (intA (by omega)) ?_; conv => whnf) | (refine optK_of (intA' (by omega)) ?_; conv => whnf))
  first | refine ⟨rfl, _, rfl, ?_⟩ | refine ⟨_, rfl, ?_⟩
  rfl
theorem l02Drip_sat (i c : Nat) (hi : i < 8) (hc : c < 17) (n : Int) (hn : 0 ≤ n ∧ n ≤ 1000) : Sat Try.prog 188 [.ref false (roofD r) 0, .v (.int .i64 i), .v (.int .i64 c), .v (.int .i64 n)] (.v (.int .i64 (drI r i c n))) := by
  have e1 : IntKind.i64.wrap (n + 1) = n + 1 := w64 (by omega) (by omega)
  have e2 : IntKind.i64.wrap (n + 2) = n + 2 := w64 (by omega) (by omega)
  have hd := drI_in r i c hn.1
  refine sat_of_wp hMix tOk Try.func188 rfl rfl Try.ntmps188 rfl rfl Try.results188 (by kernel_rfl) ?_
  conv => whnf
  repeat (first | (refine And.intro (by first | exact Nat.le_of_ble_eq_true rfl | exact mapOkP | exact rfl | decide | omega | (simp [splice]; done) | (constructor <;> omega) | (simp [splice]; omega)) ?_; conv => whnf) | (refine optK_of (raiA (by omega)) ?_; conv => whnf) | (refine optK_of (raiA' (by omega)) ?_; conv => whnf) | (refine optK_of (dripA (by omega) (by omega)) ?_; conv => whnf) | (refine optK_of (roofN (by omega) (by omega)) ?_; conv => whnf) | (refine optK_of (gridN (by omega) (by omega)) ?_; conv => whnf) | (refine optK_of (flowG) ?_; conv => whnf) | (refine optK_of (flowM) ?_; conv => whnf) | (refine optK_of (intA (by omega)) ?_; conv => whnf) | (refine optK_of (intA' (by omega)) ?_; conv => whnf))
  first | refine ⟨_, _, rfl, Sat.of_eq (l02Over_sat r hr hb i c hi hc) (by repeat (first | rfl | exact vfull (by first | (simp [splice]; done) | (simp [splice]; omega)) | exact rfull (by first | (simp [splice]; done) | (simp [splice]; omega)) | exact vplace (by simp; done) (by omega) | exact vrow (by simp; done) (by omega) | exact vtiles (by simp) | exact vsplice (by simp) (by simp) | refine ceq ?_ ?_ | refine Eq.trans (vsplice (by first | (simp; done) | (simp; omega)) (by first | (simp; done) | (simp; omega))) ?_)), ?_⟩ | refine .inl ⟨_, _, rfl, Sat.of_eq (l02Over_sat r hr hb i c hi hc) (by repeat (first | rfl | exact vfull (by first | (simp [splice]; done) | (simp [splice]; omega)) | exact rfull (by first | (simp [splice]; done) | (simp [splice]; omega)) | exact vplace (by simp; done) (by omega) | exact vrow (by simp; done) (by omega) | exact vtiles (by simp) | exact vsplice (by simp) (by simp) | refine ceq ?_ ?_ | refine Eq.trans (vsplice (by first | (simp; done) | (simp; omega)) (by first | (simp; done) | (simp; omega))) ?_)), ?_⟩
  conv => whnf
  repeat (first | (refine And.intro (by first | exact Nat.le_of_ble_eq_true rfl | exact mapOkP | exact rfl | decide | omega | (simp [splice]; done) | (constructor <;> omega) | (simp [splice]; omega)) ?_; conv => whnf) | (refine optK_of (raiA (by omega)) ?_; conv => whnf) | (refine optK_of (raiA' (by omega)) ?_; conv => whnf) | (refine optK_of (dripA (by omega) (by omega)) ?_; conv => whnf) | (refine optK_of (roofN (by omega) (by omega)) ?_; conv => whnf) | (refine optK_of (gridN (by omega) (by omega)) ?_; conv => whnf) | (refine optK_of (flowG) ?_; conv => whnf) | (refine optK_of (flowM) ?_; conv => whnf) | (refine optK_of (intA (by omega)) ?_; conv => whnf) | (refine optK_of (intA' (by omega)) ?_; conv => whnf))
  cases h1 : (ovI r i c == 1)
  case true =>
    have h1' : ovI r i c = 1 := by simpa using h1
    have hq : drI r i c n = (n + 1).tdiv 2 := by unfold drI; rw [if_pos h1']
    conv => whnf
    repeat (first | (refine And.intro (by first | exact Nat.le_of_ble_eq_true rfl | exact mapOkP | exact rfl | decide | omega | (simp [splice]; done) | (constructor <;> omega) | (simp [splice]; omega)) ?_; conv => whnf) | (refine optK_of (raiA (by omega)) ?_; conv => whnf) | (refine optK_of (raiA' (by omega)) ?_; conv => whnf) | (refine optK_of (dripA (by omega) (by omega)) ?_; conv => whnf) | (refine optK_of (roofN (by omega) (by omega)) ?_; conv => whnf) | (refine optK_of (gridN (by omega) (by omega)) ?_; conv => whnf) | (refine optK_of (flowG) ?_; conv => whnf) | (refine optK_of (flowM) ?_; conv => whnf) | (refine optK_of (intA (by omega)) ?_; conv => whnf) | (refine optK_of (intA' (by omega)) ?_; conv => whnf))
    first | refine ⟨rfl, _, rfl, ?_⟩ | refine ⟨_, rfl, ?_⟩
    skip
    rw [e1, ← hq, show IntKind.i64.wrap (drI r i c n) = drI r i c n from w64 (by omega) (by omega)]; rfl
  have h1' : ¬ ovI r i c = 1 := by simpa using h1
  conv => whnf
  repeat (first | (refine And.intro (by first | exact Nat.le_of_ble_eq_true rfl | exact mapOkP | exact rfl | decide | omega | (simp [splice]; done) | (constructor <;> omega) | (simp [splice]; omega)) ?_; conv => whnf) | (refine optK_of (raiA (by omega)) ?_; conv => whnf) | (refine optK_of (raiA' (by omega)) ?_; conv => whnf) | (refine optK_of (dripA (by omega) (by omega)) ?_; conv => whnf) | (refine optK_of (roofN (by omega) (by omega)) ?_; conv => whnf) | (refine optK_of (gridN (by omega) (by omega)) ?_; conv => whnf) | (refine optK_of (flowG) ?_; conv => whnf) | (refine optK_of (flowM) ?_; conv => whnf) | (refine optK_of (intA (by omega)) ?_; conv => whnf) | (refine optK_of (intA' (by omega)) ?_; conv => whnf))
  cases h2 : (ovI r i c == 2)
  case true =>
    have h2' : ovI r i c = 2 := by simpa using h2
    have hq : drI r i c n = (n + 2).tdiv 3 := by unfold drI; rw [if_neg h1', if_pos h2']
    conv => whnf
    repeat (first | (refine And.intro (by first | exact Nat.le_of_ble_eq_true rfl | exact mapOkP | exact rfl | decide | omega | (simp [splice]; done) | (constructor <;> omega) | (simp [splice]; omega)) ?_; conv => whnf) | (refine optK_of (raiA (by omega)) ?_; conv => whnf) | (refine optK_of (raiA' (by omega)) ?_; conv => whnf) | (refine optK_of (dripA (by omega) (by omega)) ?_; conv => whnf) | (refine optK_of (roofN (by omega) (by omega)) ?_; conv => whnf) | (refine optK_of (gridN (by omega) (by omega)) ?_; conv => whnf) | (refine optK_of (flowG) ?_; conv => whnf) | (refine optK_of (flowM) ?_; conv => whnf) | (refine optK_of (intA (by omega)) ?_; conv => whnf) | (refine optK_of (intA' (by omega)) ?_; conv => whnf))
    first | refine ⟨rfl, _, rfl, ?_⟩ | refine ⟨_, rfl, ?_⟩
    skip
    rw [e2, ← hq, show IntKind.i64.wrap (drI r i c n) = drI r i c n from w64 (by omega) (by omega)]; rfl
  have h2' : ¬ ovI r i c = 2 := by simpa using h2
  conv => whnf
  repeat (first | (refine And.intro (by first | exact Nat.le_of_ble_eq_true rfl | exact mapOkP | exact rfl | decide | omega | (simp [splice]; done) | (constructor <;> omega) | (simp [splice]; omega)) ?_; conv => whnf) | (refine optK_of (raiA (by omega)) ?_; conv => whnf) | (refine optK_of (raiA' (by omega)) ?_; conv => whnf) | (refine optK_of (dripA (by omega) (by omega)) ?_; conv => whnf) | (refine optK_of (roofN (by omega) (by omega)) ?_; conv => whnf) | (refine optK_of (gridN (by omega) (by omega)) ?_; conv => whnf) | (refine optK_of (flowG) ?_; conv => whnf) | (refine optK_of (flowM) ?_; conv => whnf) | (refine optK_of (intA (by omega)) ?_; conv => whnf) | (refine optK_of (intA' (by omega)) ?_; conv => whnf))
  cases h3 : (ovI r i c == 3)
  · have h3' : ¬ ovI r i c = 3 := by simpa using h3
    rw [show drI r i c n = 0 by unfold drI; rw [if_neg h1', if_neg h2', if_neg h3']]
    conv => whnf
    repeat (first | (refine And.intro (by first | exact Nat.le_of_ble_eq_true rfl | exact mapOkP | exact rfl | decide | omega | (simp [splice]; done) | (constructor <;> omega) | (simp [splice]; omega)) ?_; conv => whnf) | (refine optK_of (raiA (by omega)) ?_; conv => whnf) | (refine optK_of (raiA' (by omega)) ?_; conv => whnf) | (refine optK_of (dripA (by omega) (by omega)) ?_; conv => whnf) | (refine optK_of (roofN (by omega) (by omega)) ?_; conv => whnf) | (refine optK_of (gridN (by omega) (by omega)) ?_; conv => whnf) | (refine optK_of (flowG) ?_; conv => whnf) | (refine optK_of (flowM) ?_; conv => whnf) | (refine optK_of (intA (by omega)) ?_; conv => whnf) | (refine optK_of (intA' (by omega)) ?_; conv => whnf))
    first | refine ⟨rfl, _, rfl, ?_⟩ | refine ⟨_, rfl, ?_⟩
    rfl
  have h3' : ovI r i c = 3 := by simpa using h3
  have hq : drI r i c n = if 0 < i ∧ ovI r (i - 1) c = 2 then 0 else n := by unfold drI; rw [if_neg h1', if_neg h2', if_pos h3']
  rw [hq]
  conv => whnf
  repeat (first | (refine And.intro (by first | exact Nat.le_of_ble_eq_true rfl | exact mapOkP | exact rfl | decide | omega | (simp [splice]; done) | (constructor <;> omega) | (simp [splice]; omega)) ?_; conv => whnf) | (refine optK_of (raiA (by omega)) ?_; conv => whnf) | (refine optK_of (raiA' (by omega)) ?_; conv => whnf) | (refine optK_of (dripA (by omega) (by omega)) ?_; conv => whnf) | (refine optK_of (roofN (by omega) (by omega)) ?_; conv => whnf) | (refine optK_of (gridN (by omega) (by omega)) ?_; conv => whnf) | (refine optK_of (flowG) ?_; conv => whnf) | (refine optK_of (flowM) ?_; conv => whnf) | (refine optK_of (intA (by omega)) ?_; conv => whnf) | (refine optK_of (intA' (by omega)) ?_; conv => whnf))
  cases h4 : decide ((i : Int) > 0)
  · rw [if_neg (by simp at h4; omega)]
    conv => whnf
    repeat (first | (refine And.intro (by first | exact Nat.le_of_ble_eq_true rfl | exact mapOkP | exact rfl | decide | omega | (simp [splice]; done) | (constructor <;> omega) | (simp [splice]; omega)) ?_; conv => whnf) | (refine optK_of (raiA (by omega)) ?_; conv => whnf) | (refine optK_of (raiA' (by omega)) ?_; conv => whnf) | (refine optK_of (dripA (by omega) (by omega)) ?_; conv => whnf) | (refine optK_of (roofN (by omega) (by omega)) ?_; conv => whnf) | (refine optK_of (gridN (by omega) (by omega)) ?_; conv => whnf) | (refine optK_of (flowG) ?_; conv => whnf) | (refine optK_of (flowM) ?_; conv => whnf) | (refine optK_of (intA (by omega)) ?_; conv => whnf) | (refine optK_of (intA' (by omega)) ?_; conv => whnf))
    first | refine ⟨rfl, _, rfl, ?_⟩ | refine ⟨_, rfl, ?_⟩
    rfl
  have hi0 : 0 < i := by simp at h4; omega
  have ei : IntKind.i64.wrap ((i : Int) - 1) = ((i - 1 : Nat) : Int) := by rw [w64 (by omega) (by omega)]; omega
  conv => whnf
  repeat (first | (refine And.intro (by first | exact Nat.le_of_ble_eq_true rfl | exact mapOkP | exact rfl | decide | omega | (simp [splice]; done) | (constructor <;> omega) | (simp [splice]; omega)) ?_; conv => whnf) | (refine optK_of (raiA (by omega)) ?_; conv => whnf) | (refine optK_of (raiA' (by omega)) ?_; conv => whnf) | (refine optK_of (dripA (by omega) (by omega)) ?_; conv => whnf) | (refine optK_of (roofN (by omega) (by omega)) ?_; conv => whnf) | (refine optK_of (gridN (by omega) (by omega)) ?_; conv => whnf) | (refine optK_of (flowG) ?_; conv => whnf) | (refine optK_of (flowM) ?_; conv => whnf) | (refine optK_of (intA (by omega)) ?_; conv => whnf) | (refine optK_of (intA' (by omega)) ?_; conv => whnf))
  rw [ei]
  first | refine ⟨_, _, rfl, Sat.of_eq (l02Over_sat r hr hb (i - 1) c (by omega) hc) (by repeat (first | rfl | exact vfull (by first | (simp [splice]; done) | (simp [splice]; omega)) | exact rfull (by first | (simp [splice]; done) | (simp [splice]; omega)) | exact vplace (by simp; done) (by omega) | exact vrow (by simp; done) (by omega) | exact vtiles (by simp) | exact vsplice (by simp) (by simp) | refine ceq ?_ ?_ | refine Eq.trans (vsplice (by first | (simp; done) | (simp; omega)) (by first | (simp; done) | (simp; omega))) ?_)), ?_⟩ | refine .inl ⟨_, _, rfl, Sat.of_eq (l02Over_sat r hr hb (i - 1) c (by omega) hc) (by repeat (first | rfl | exact vfull (by first | (simp [splice]; done) | (simp [splice]; omega)) | exact rfull (by first | (simp [splice]; done) | (simp [splice]; omega)) | exact vplace (by simp; done) (by omega) | exact vrow (by simp; done) (by omega) | exact vtiles (by simp) | exact vsplice (by simp) (by simp) | refine ceq ?_ ?_ | refine Eq.trans (vsplice (by first | (simp; done) | (simp; omega)) (by first | (simp; done) | (simp; omega))) ?_)), ?_⟩
  conv => whnf
  repeat (first | (refine And.intro (by first | exact Nat.le_of_ble_eq_true rfl | exact mapOkP | exact rfl | decide | omega | (simp [splice]; done) | (constructor <;> omega) | (simp [splice]; omega)) ?_; conv => whnf) | (refine optK_of (raiA (by omega)) ?_; conv => whnf) | (refine optK_of (raiA' (by omega)) ?_; conv => whnf) | (refine optK_of (dripA (by omega) (by omega)) ?_; conv => whnf) | (refine optK_of (roofN (by omega) (by omega)) ?_; conv => whnf) | (refine optK_of (gridN (by omega) (by omega)) ?_; conv => whnf) | (refine optK_of (flowG) ?_; conv => whnf) | (refine optK_of (flowM) ?_; conv => whnf) | (refine optK_of (intA (by omega)) ?_; conv => whnf) | (refine optK_of (intA' (by omega)) ?_; conv => whnf))
  cases h5 : (ovI r (i - 1) c == 2)
  · rw [if_neg (by simp at h5; omega)]
    conv => whnf
    repeat (first | (refine And.intro (by first | exact Nat.le_of_ble_eq_true rfl | exact mapOkP | exact rfl | decide | omega | (simp [splice]; done) | (constructor <;> omega) | (simp [splice]; omega)) ?_; conv => whnf) | (refine optK_of (raiA (by omega)) ?_; conv => whnf) | (refine optK_of (raiA' (by omega)) ?_; conv => whnf) | (refine optK_of (dripA (by omega) (by omega)) ?_; conv => whnf) | (refine optK_of (roofN (by omega) (by omega)) ?_; conv => whnf) | (refine optK_of (gridN (by omega) (by omega)) ?_; conv => whnf) | (refine optK_of (flowG) ?_; conv => whnf) | (refine optK_of (flowM) ?_; conv => whnf) | (refine optK_of (intA (by omega)) ?_; conv => whnf) | (refine optK_of (intA' (by omega)) ?_; conv => whnf))
    first | refine ⟨rfl, _, rfl, ?_⟩ | refine ⟨_, rfl, ?_⟩
    rfl
  rw [if_pos ⟨hi0, by simpa using h5⟩]
  conv => whnf
  repeat (first | (refine And.intro (by first | exact Nat.le_of_ble_eq_true rfl | exact mapOkP | exact rfl | decide | omega | (simp [splice]; done) | (constructor <;> omega) | (simp [splice]; omega)) ?_; conv => whnf) | (refine optK_of (raiA (by omega)) ?_; conv => whnf) | (refine optK_of (raiA' (by omega)) ?_; conv => whnf) | (refine optK_of (dripA (by omega) (by omega)) ?_; conv => whnf) | (refine optK_of (roofN (by omega) (by omega)) ?_; conv => whnf) | (refine optK_of (gridN (by omega) (by omega)) ?_; conv => whnf) | (refine optK_of (flowG) ?_; conv => whnf) | (refine optK_of (flowM) ?_; conv => whnf) | (refine optK_of (intA (by omega)) ?_; conv => whnf) | (refine optK_of (intA' (by omega)) ?_; conv => whnf))
  first | refine ⟨rfl, _, rfl, ?_⟩ | refine ⟨_, rfl, ?_⟩
  rfl
omit hr hb in
theorem coveringNo_sat (c : Nat) (x : Int) (hx : x < 0) : Sat Try.prog 192 [roofD r, .v (.int .i64 x), .v (.int .i64 c)] (.v (.int .u8 0)) := by
  refine sat_of_wp hMix tOk Try.func192 rfl rfl Try.ntmps192 rfl rfl Try.results192 (by kernel_rfl) ?_
  conv => whnf
  repeat (first | (refine And.intro (by first | exact Nat.le_of_ble_eq_true rfl | exact mapOkP | exact rfl | decide | omega | (simp [splice]; done) | (constructor <;> omega) | (simp [splice]; omega)) ?_; conv => whnf) | (refine optK_of (raiA (by omega)) ?_; conv => whnf) | (refine optK_of (raiA' (by omega)) ?_; conv => whnf) | (refine optK_of (dripA (by omega) (by omega)) ?_; conv => whnf) | (refine optK_of (roofN (by omega) (by omega)) ?_; conv => whnf) | (refine optK_of (gridN (by omega) (by omega)) ?_; conv => whnf) | (refine optK_of (flowG) ?_; conv => whnf) | (refine optK_of (flowM) ?_; conv => whnf) | (refine optK_of (intA (by omega)) ?_; conv => whnf) | (refine optK_of (intA' (by omega)) ?_; conv => whnf))
  rw [show decide (x < 0) = true by simpa using hx]
  conv => whnf
  repeat (first | (refine And.intro (by first | exact Nat.le_of_ble_eq_true rfl | exact mapOkP | exact rfl | decide | omega | (simp [splice]; done) | (constructor <;> omega) | (simp [splice]; omega)) ?_; conv => whnf) | (refine optK_of (raiA (by omega)) ?_; conv => whnf) | (refine optK_of (raiA' (by omega)) ?_; conv => whnf) | (refine optK_of (dripA (by omega) (by omega)) ?_; conv => whnf) | (refine optK_of (roofN (by omega) (by omega)) ?_; conv => whnf) | (refine optK_of (gridN (by omega) (by omega)) ?_; conv => whnf) | (refine optK_of (flowG) ?_; conv => whnf) | (refine optK_of (flowM) ?_; conv => whnf) | (refine optK_of (intA (by omega)) ?_; conv => whnf) | (refine optK_of (intA' (by omega)) ?_; conv => whnf))
  first | refine ⟨rfl, _, rfl, ?_⟩ | refine ⟨_, rfl, ?_⟩
  rfl
end
theorem up32_sat (a b : Int) (ha : 0 ≤ a ∧ a ≤ 1000) (hb' : 2 ≤ b ∧ b ≤ 3) : Sat Try.prog 207 [.v (.int .i32 a), .v (.int .i32 b)] (.v (.int .i32 ((a + b - 1).tdiv b))) := by
  have h0 : b ≠ 0 := by omega
  refine sat_of_wp hMix tOk Try.func207 rfl rfl Try.ntmps207 rfl rfl Try.results207 (by kernel_rfl) ?_
  conv => whnf
  repeat (first | (refine And.intro (by first | exact Nat.le_of_ble_eq_true rfl | exact mapOkP | exact rfl | decide | omega | (simp [splice]; done) | (constructor <;> omega) | (simp [splice]; omega)) ?_; conv => whnf) | (refine optK_of (raiA (by omega)) ?_; conv => whnf) | (refine optK_of (raiA' (by omega)) ?_; conv => whnf) | (refine optK_of (dripA (by omega) (by omega)) ?_; conv => whnf) | (refine optK_of (roofN (by omega) (by omega)) ?_; conv => whnf) | (refine optK_of (gridN (by omega) (by omega)) ?_; conv => whnf) | (refine optK_of (flowG) ?_; conv => whnf) | (refine optK_of (flowM) ?_; conv => whnf) | (refine optK_of (intA (by omega)) ?_; conv => whnf) | (refine optK_of (intA' (by omega)) ?_; conv => whnf))
  rw [show IntKind.i32.wrap (a + b) = a + b from w32 (by omega) (by omega), show IntKind.i32.wrap (a + b - 1) = a + b - 1 from w32 (by omega) (by omega)]
  have hq : (a + b - 1).tdiv b = (a + b - 1) / b := Int.tdiv_eq_ediv_of_nonneg (by omega)
  have h1 : 0 ≤ (a + b - 1) / b := Int.ediv_nonneg (by omega) (by omega)
  have h2 : (a + b - 1) / b ≤ a + b - 1 := Int.ediv_le_self _ (by omega)
  first | refine ⟨rfl, _, rfl, ?_⟩ | refine ⟨_, rfl, ?_⟩
  skip
  rw [show IntKind.i32.wrap ((a + b - 1).tdiv b) = (a + b - 1).tdiv b by rw [hq]; exact w32 (by omega) (by omega)]; rfl
def dofI (k a n : Int) : Int := if k = 1 then (n + 1).tdiv 2 else if k = 2 then (n + 2).tdiv 3 else if k = 3 then (if a = 2 then 0 else n) else 0
theorem dripOf_sat (k a n : Int) (hn : 0 ≤ n ∧ n ≤ 1000) : Sat Try.prog 191 [.v (.int .u8 k), .v (.int .u8 a), .v (.int .i32 n)] (.v (.int .i32 (dofI k a n))) := by
  refine sat_of_wp hMix tOk Try.func191 rfl rfl Try.ntmps191 rfl rfl Try.results191 (by kernel_rfl) ?_
  conv => whnf
  repeat (first | (refine And.intro (by first | exact Nat.le_of_ble_eq_true rfl | exact mapOkP | exact rfl | decide | omega | (simp [splice]; done) | (constructor <;> omega) | (simp [splice]; omega)) ?_; conv => whnf) | (refine optK_of (raiA (by omega)) ?_; conv => whnf) | (refine optK_of (raiA' (by omega)) ?_; conv => whnf) | (refine optK_of (dripA (by omega) (by omega)) ?_; conv => whnf) | (refine optK_of (roofN (by omega) (by omega)) ?_; conv => whnf) | (refine optK_of (gridN (by omega) (by omega)) ?_; conv => whnf) | (refine optK_of (flowG) ?_; conv => whnf) | (refine optK_of (flowM) ?_; conv => whnf) | (refine optK_of (intA (by omega)) ?_; conv => whnf) | (refine optK_of (intA' (by omega)) ?_; conv => whnf))
  cases h1 : (k == 1)
  case true =>
    have h1' : k = 1 := by simpa using h1
    rw [show dofI k a n = (n + 2 - 1).tdiv 2 by unfold dofI; rw [if_pos h1', show n + 2 - 1 = n + 1 by omega]]
    conv => whnf
    repeat (first | (refine And.intro (by first | exact Nat.le_of_ble_eq_true rfl | exact mapOkP | exact rfl | decide | omega | (simp [splice]; done) | (constructor <;> omega) | (simp [splice]; omega)) ?_; conv => whnf) | (refine optK_of (raiA (by omega)) ?_; conv => whnf) | (refine optK_of (raiA' (by omega)) ?_; conv => whnf) | (refine optK_of (dripA (by omega) (by omega)) ?_; conv => whnf) | (refine optK_of (roofN (by omega) (by omega)) ?_; conv => whnf) | (refine optK_of (gridN (by omega) (by omega)) ?_; conv => whnf) | (refine optK_of (flowG) ?_; conv => whnf) | (refine optK_of (flowM) ?_; conv => whnf) | (refine optK_of (intA (by omega)) ?_; conv => whnf) | (refine optK_of (intA' (by omega)) ?_; conv => whnf))
    first | refine ⟨_, _, rfl, Sat.of_eq (up32_sat n 2 hn (by omega)) (by repeat (first | rfl | exact vfull (by first | (simp [splice]; done) | (simp [splice]; omega)) | exact rfull (by first | (simp [splice]; done) | (simp [splice]; omega)) | exact vplace (by simp; done) (by omega) | exact vrow (by simp; done) (by omega) | exact vtiles (by simp) | exact vsplice (by simp) (by simp) | refine ceq ?_ ?_ | refine Eq.trans (vsplice (by first | (simp; done) | (simp; omega)) (by first | (simp; done) | (simp; omega))) ?_)), ?_⟩ | refine .inl ⟨_, _, rfl, Sat.of_eq (up32_sat n 2 hn (by omega)) (by repeat (first | rfl | exact vfull (by first | (simp [splice]; done) | (simp [splice]; omega)) | exact rfull (by first | (simp [splice]; done) | (simp [splice]; omega)) | exact vplace (by simp; done) (by omega) | exact vrow (by simp; done) (by omega) | exact vtiles (by simp) | exact vsplice (by simp) (by simp) | refine ceq ?_ ?_ | refine Eq.trans (vsplice (by first | (simp; done) | (simp; omega)) (by first | (simp; done) | (simp; omega))) ?_)), ?_⟩
    conv => whnf
    repeat (first | (refine And.intro (by first | exact Nat.le_of_ble_eq_true rfl | exact mapOkP | exact rfl | decide | omega | (simp [splice]; done) | (constructor <;> omega) | (simp [splice]; omega)) ?_; conv => whnf) | (refine optK_of (raiA (by omega)) ?_; conv => whnf) | (refine optK_of (raiA' (by omega)) ?_; conv => whnf) | (refine optK_of (dripA (by omega) (by omega)) ?_; conv => whnf) | (refine optK_of (roofN (by omega) (by omega)) ?_; conv => whnf) | (refine optK_of (gridN (by omega) (by omega)) ?_; conv => whnf) | (refine optK_of (flowG) ?_; conv => whnf) | (refine optK_of (flowM) ?_; conv => whnf) | (refine optK_of (intA (by omega)) ?_; conv => whnf) | (refine optK_of (intA' (by omega)) ?_; conv => whnf))
    first | refine ⟨rfl, _, rfl, ?_⟩ | refine ⟨_, rfl, ?_⟩
    rfl
  have h1' : ¬ k = 1 := by simpa using h1
  conv => whnf
  repeat (first | (refine And.intro (by first | exact Nat.le_of_ble_eq_true rfl | exact mapOkP | exact rfl | decide | omega | (simp [splice]; done) | (constructor <;> omega) | (simp [splice]; omega)) ?_; conv => whnf) | (refine optK_of (raiA (by omega)) ?_; conv => whnf) | (refine optK_of (raiA' (by omega)) ?_; conv => whnf) | (refine optK_of (dripA (by omega) (by omega)) ?_; conv => whnf) | (refine optK_of (roofN (by omega) (by omega)) ?_; conv => whnf) | (refine optK_of (gridN (by omega) (by omega)) ?_; conv => whnf) | (refine optK_of (flowG) ?_; conv => whnf) | (refine optK_of (flowM) ?_; conv => whnf) | (refine optK_of (intA (by omega)) ?_; conv => whnf) | (refine optK_of (intA' (by omega)) ?_; conv => whnf))
  cases h2 : (k == 2)
  case true =>
    have h2' : k = 2 := by simpa using h2
    rw [show dofI k a n = (n + 3 - 1).tdiv 3 by unfold dofI; rw [if_neg h1', if_pos h2', show n + 3 - 1 = n + 2 by omega]]
    conv => whnf
    repeat (first | (refine And.intro (by first | exact Nat.le_of_ble_eq_true rfl | exact mapOkP | exact rfl | decide | omega | (simp [splice]; done) | (constructor <;> omega) | (simp [splice]; omega)) ?_; conv => whnf) | (refine optK_of (raiA (by omega)) ?_; conv => whnf) | (refine optK_of (raiA' (by omega)) ?_; conv => whnf) | (refine optK_of (dripA (by omega) (by omega)) ?_; conv => whnf) | (refine optK_of (roofN (by omega) (by omega)) ?_; conv => whnf) | (refine optK_of (gridN (by omega) (by omega)) ?_; conv => whnf) | (refine optK_of (flowG) ?_; conv => whnf) | (refine optK_of (flowM) ?_; conv => whnf) | (refine optK_of (intA (by omega)) ?_; conv => whnf) | (refine optK_of (intA' (by omega)) ?_; conv => whnf))
    first | refine ⟨_, _, rfl, Sat.of_eq (up32_sat n 3 hn (by omega)) (by repeat (first | rfl | exact vfull (by first | (simp [splice]; done) | (simp [splice]; omega)) | exact rfull (by first | (simp [splice]; done) | (simp [splice]; omega)) | exact vplace (by simp; done) (by omega) | exact vrow (by simp; done) (by omega) | exact vtiles (by simp) | exact vsplice (by simp) (by simp) | refine ceq ?_ ?_ | refine Eq.trans (vsplice (by first | (simp; done) | (simp; omega)) (by first | (simp; done) | (simp; omega))) ?_)), ?_⟩ | refine .inl ⟨_, _, rfl, Sat.of_eq (up32_sat n 3 hn (by omega)) (by repeat (first | rfl | exact vfull (by first | (simp [splice]; done) | (simp [splice]; omega)) | exact rfull (by first | (simp [splice]; done) | (simp [splice]; omega)) | exact vplace (by simp; done) (by omega) | exact vrow (by simp; done) (by omega) | exact vtiles (by simp) | exact vsplice (by simp) (by simp) | refine ceq ?_ ?_ | refine Eq.trans (vsplice (by first | (simp; done) | (simp; omega)) (by first | (simp; done) | (simp; omega))) ?_)), ?_⟩
    conv => whnf
    repeat (first | (refine And.intro (by first | exact Nat.le_of_ble_eq_true rfl | exact mapOkP | exact rfl | decide | omega | (simp [splice]; done) | (constructor <;> omega) | (simp [splice]; omega)) ?_; conv => whnf) | (refine optK_of (raiA (by omega)) ?_; conv => whnf) | (refine optK_of (raiA' (by omega)) ?_; conv => whnf) | (refine optK_of (dripA (by omega) (by omega)) ?_; conv => whnf) | (refine optK_of (roofN (by omega) (by omega)) ?_; conv => whnf) | (refine optK_of (gridN (by omega) (by omega)) ?_; conv => whnf) | (refine optK_of (flowG) ?_; conv => whnf) | (refine optK_of (flowM) ?_; conv => whnf) | (refine optK_of (intA (by omega)) ?_; conv => whnf) | (refine optK_of (intA' (by omega)) ?_; conv => whnf))
    first | refine ⟨rfl, _, rfl, ?_⟩ | refine ⟨_, rfl, ?_⟩
    rfl
  have h2' : ¬ k = 2 := by simpa using h2
  conv => whnf
  repeat (first | (refine And.intro (by first | exact Nat.le_of_ble_eq_true rfl | exact mapOkP | exact rfl | decide | omega | (simp [splice]; done) | (constructor <;> omega) | (simp [splice]; omega)) ?_; conv => whnf) | (refine optK_of (raiA (by omega)) ?_; conv => whnf) | (refine optK_of (raiA' (by omega)) ?_; conv => whnf) | (refine optK_of (dripA (by omega) (by omega)) ?_; conv => whnf) | (refine optK_of (roofN (by omega) (by omega)) ?_; conv => whnf) | (refine optK_of (gridN (by omega) (by omega)) ?_; conv => whnf) | (refine optK_of (flowG) ?_; conv => whnf) | (refine optK_of (flowM) ?_; conv => whnf) | (refine optK_of (intA (by omega)) ?_; conv => whnf) | (refine optK_of (intA' (by omega)) ?_; conv => whnf))
  cases h3 : (k == 3)
  · have h3' : ¬ k = 3 := by simpa using h3
    rw [show dofI k a n = 0 by unfold dofI; rw [if_neg h1', if_neg h2', if_neg h3']]
    conv => whnf
    repeat (first | (refine And.intro (by first | exact Nat.le_of_ble_eq_true rfl | exact mapOkP | exact rfl | decide | omega | (simp [splice]; done) | (constructor <;> omega) | (simp [splice]; omega)) ?_; conv => whnf) | (refine optK_of (raiA (by omega)) ?_; conv => whnf) | (refine optK_of (raiA' (by omega)) ?_; conv => whnf) | (refine optK_of (dripA (by omega) (by omega)) ?_; conv => whnf) | (refine optK_of (roofN (by omega) (by omega)) ?_; conv => whnf) | (refine optK_of (gridN (by omega) (by omega)) ?_; conv => whnf) | (refine optK_of (flowG) ?_; conv => whnf) | (refine optK_of (flowM) ?_; conv => whnf) | (refine optK_of (intA (by omega)) ?_; conv => whnf) | (refine optK_of (intA' (by omega)) ?_; conv => whnf))
    first | refine ⟨rfl, _, rfl, ?_⟩ | refine ⟨_, rfl, ?_⟩
    rfl
  have h3' : k = 3 := by simpa using h3
  rw [show dofI k a n = if a = 2 then 0 else n by unfold dofI; rw [if_neg h1', if_neg h2', if_pos h3']]
  conv => whnf
  repeat (first | (refine And.intro (by first | exact Nat.le_of_ble_eq_true rfl | exact mapOkP | exact rfl | decide | omega | (simp [splice]; done) | (constructor <;> omega) | (simp [splice]; omega)) ?_; conv => whnf) | (refine optK_of (raiA (by omega)) ?_; conv => whnf) | (refine optK_of (raiA' (by omega)) ?_; conv => whnf) | (refine optK_of (dripA (by omega) (by omega)) ?_; conv => whnf) | (refine optK_of (roofN (by omega) (by omega)) ?_; conv => whnf) | (refine optK_of (gridN (by omega) (by omega)) ?_; conv => whnf) | (refine optK_of (flowG) ?_; conv => whnf) | (refine optK_of (flowM) ?_; conv => whnf) | (refine optK_of (intA (by omega)) ?_; conv => whnf) | (refine optK_of (intA' (by omega)) ?_; conv => whnf))
  cases h4 : (a != 2)
  · rw [if_pos (by simpa using h4)]
    conv => whnf
    repeat (first | (refine And.intro (by first | exact Nat.le_of_ble_eq_true rfl | exact mapOkP | exact rfl | decide | omega | (simp [splice]; done) | (constructor <;> omega) | (simp [splice]; omega)) ?_; conv => whnf) | (refine optK_of (raiA (by omega)) ?_; conv => whnf) | (refine optK_of (raiA' (by omega)) ?_; conv => whnf) | (refine optK_of (dripA (by omega) (by omega)) ?_; conv => whnf) | (refine optK_of (roofN (by omega) (by omega)) ?_; conv => whnf) | (refine optK_of (gridN (by omega) (by omega)) ?_; conv => whnf) | (refine optK_of (flowG) ?_; conv => whnf) | (refine optK_of (flowM) ?_; conv => whnf) | (refine optK_of (intA (by omega)) ?_; conv => whnf) | (refine optK_of (intA' (by omega)) ?_; conv => whnf))
    first | refine ⟨rfl, _, rfl, ?_⟩ | refine ⟨_, rfl, ?_⟩
    rfl
  rw [if_neg (by simpa using h4)]
  conv => whnf
  repeat (first | (refine And.intro (by first | exact Nat.le_of_ble_eq_true rfl | exact mapOkP | exact rfl | decide | omega | (simp [splice]; done) | (constructor <;> omega) | (simp [splice]; omega)) ?_; conv => whnf) | (refine optK_of (raiA (by omega)) ?_; conv => whnf) | (refine optK_of (raiA' (by omega)) ?_; conv => whnf) | (refine optK_of (dripA (by omega) (by omega)) ?_; conv => whnf) | (refine optK_of (roofN (by omega) (by omega)) ?_; conv => whnf) | (refine optK_of (gridN (by omega) (by omega)) ?_; conv => whnf) | (refine optK_of (flowG) ?_; conv => whnf) | (refine optK_of (flowM) ?_; conv => whnf) | (refine optK_of (intA (by omega)) ?_; conv => whnf) | (refine optK_of (intA' (by omega)) ?_; conv => whnf))
  first | refine ⟨rfl, _, rfl, ?_⟩ | refine ⟨_, rfl, ?_⟩
  rfl
theorem dofI_eq (r : Roof) (i c : Nat) (n : Int) : dofI (ovI r i c) (if 0 < i then ovI r (i - 1) c else 0) n = drI r i c n := by
  unfold dofI drI
  by_cases hi : 0 < i
  · simp only [hi, if_true, true_and]
  · simp only [hi, if_false, false_and]
    split
    · rfl
    · split
      · rfl
      · split <;> rfl
set_option maxRecDepth 20000 in
theorem l02Run_sat (r : Roof) (hr : r.In) (hb : (1 ≤ r.w ∧ r.w ≤ 8) ∧ (1 ≤ r.h ∧ r.h ≤ 8) ∧ r.s ≤ 1) (w : Nat → Int) (hw : ∀ c, c < 17 → 0 ≤ w c ∧ w c ≤ 1000) :
    Sat Try.prog 148 [.ref false (roofD r) 0, .ref false (raiD w) 0] (.tup [dripD (dR r w), dripD (cmR r w), intsD true (gtL r w (2 * r.w + 1).toNat)]) := by
  have eh : IntKind.i64.wrap r.h = r.h := w64 (by omega) (by omega)
  have ez : dripC (fun _ _ => 0) = List.replicate 136 (.int .i32 0) := dripC_zero
  refine sat_of_wp hMix tOk Try.func148 rfl rfl Try.ntmps148 rfl rfl Try.results148 (by kernel_rfl) ?_
  conv => whnf
  repeat (first | (refine And.intro (by first | exact Nat.le_of_ble_eq_true rfl | exact mapOkP | exact rfl | decide | omega | (simp [splice]; done) | (constructor <;> omega) | (simp [splice]; omega)) ?_; conv => whnf) | (refine optK_of (raiA (by omega)) ?_; conv => whnf) | (refine optK_of (raiA' (by omega)) ?_; conv => whnf) | (refine optK_of (dripA (by omega) (by omega)) ?_; conv => whnf) | (refine optK_of (roofN (by omega) (by omega)) ?_; conv => whnf) | (refine optK_of (gridN (by omega) (by omega)) ?_; conv => whnf) | (refine optK_of (flowG) ?_; conv => whnf) | (refine optK_of (flowM) ?_; conv => whnf) | (refine optK_of (intA (by omega)) ?_; conv => whnf) | (refine optK_of (intA' (by omega)) ?_; conv => whnf))
  refine loop_rule (α := Nat) (fun c => [(0, .ref false (roofD r) 0), (1, .ref false (raiD w) 0), (4, .ptr (4, 0, 0) 0), (5, .ptr (5, 0, 0) 0), (7, .ptr (7, 0, 0) 0), (8, .ptr (8, 0, 0) 0), (9, .slc true 1 (16, 0, 0) 0 c), (10, .v (.int .i64 c))]) (fun c => [((4, 0, 0), dripD (fun _ _ => 0)), ((5, 0, 0), dripD (fun _ _ => 0)), ((7, 0, 0), dripD (ptR (dR r w) c 0)), ((8, 0, 0), dripD (ptR (cmR r w) c 0)), ((16, 0, 0), .v (.agg ⟨intsC (gtL r w c)⟩))]) (fun c => c ≤ (2 * r.w + 1).toNat) (fun c => (2 * r.w + 1).toNat - c) (0) ?_ (sim_of (rn := [((4, 0, 0), (4, 0, 0)), ((5, 0, 0), (5, 0, 0)), ((7, 0, 0), (7, 0, 0)), ((8, 0, 0), (8, 0, 0)), ((16, 0, 0), (16, 0, 0))]) rfl ?_ ?_) ?_
  · first | omega | (dsimp only; omega) | ((repeat' apply And.intro) <;> omega) | (dsimp only; (repeat' apply And.intro) <;> omega) | trivial
  · ((repeat' (first | exact trivial | apply And.intro)) <;> (first | rfl | exact succ8 (by omega) | exact succ64 (by omega) | exact CapOk.fn (by assumption) _ _ | exact vintS (by omega) | exact vintS (by rw [w64 (by omega) (by omega)]; omega) | exact vintS (by rw [w8 (by omega) (by omega)]; omega) | exact vslcS (by omega) | exact vslcS (by simp)))
  · ((repeat' (first | exact trivial | apply And.intro)) <;> ((first | refine ⟨_, _, rfl, rfl, ?_⟩ | refine ⟨_, _, rfl, renFlow rfl rfl, ?_⟩); first | (first | exact cset ez.symm | exact cset intsC_nil.symm | exact cset (by rw [ptR_zero, ez]; rfl)) | rfl))
  intro c hc
  conv => whnf
  repeat (first | (refine And.intro (by first | exact Nat.le_of_ble_eq_true rfl | exact mapOkP | exact rfl | decide | omega | (simp [splice]; done) | (constructor <;> omega) | (simp [splice]; omega)) ?_; conv => whnf) | (refine optK_of (raiA (by omega)) ?_; conv => whnf) | (refine optK_of (raiA' (by omega)) ?_; conv => whnf) | (refine optK_of (dripA (by omega) (by omega)) ?_; conv => whnf) | (refine optK_of (roofN (by omega) (by omega)) ?_; conv => whnf) | (refine optK_of (gridN (by omega) (by omega)) ?_; conv => whnf) | (refine optK_of (flowG) ?_; conv => whnf) | (refine optK_of (flowM) ?_; conv => whnf) | (refine optK_of (intA (by omega)) ?_; conv => whnf) | (refine optK_of (intA' (by omega)) ?_; conv => whnf))
  first | refine ⟨_, _, rfl, Sat.of_eq (l01Cells_sat r hr hb) (by repeat (first | rfl | exact vfull (by first | (simp [splice]; done) | (simp [splice]; omega)) | exact rfull (by first | (simp [splice]; done) | (simp [splice]; omega)) | exact vplace (by simp; done) (by omega) | exact vrow (by simp; done) (by omega) | exact vtiles (by simp) | exact vsplice (by simp) (by simp) | refine ceq ?_ ?_ | refine Eq.trans (vsplice (by first | (simp; done) | (simp; omega)) (by first | (simp; done) | (simp; omega))) ?_)), ?_⟩ | refine .inl ⟨_, _, rfl, Sat.of_eq (l01Cells_sat r hr hb) (by repeat (first | rfl | exact vfull (by first | (simp [splice]; done) | (simp [splice]; omega)) | exact rfull (by first | (simp [splice]; done) | (simp [splice]; omega)) | exact vplace (by simp; done) (by omega) | exact vrow (by simp; done) (by omega) | exact vtiles (by simp) | exact vsplice (by simp) (by simp) | refine ceq ?_ ?_ | refine Eq.trans (vsplice (by first | (simp; done) | (simp; omega)) (by first | (simp; done) | (simp; omega))) ?_)), ?_⟩
  conv => whnf
  repeat (first | (refine And.intro (by first | exact Nat.le_of_ble_eq_true rfl | exact mapOkP | exact rfl | decide | omega | (simp [splice]; done) | (constructor <;> omega) | (simp [splice]; omega)) ?_; conv => whnf) | (refine optK_of (raiA (by omega)) ?_; conv => whnf) | (refine optK_of (raiA' (by omega)) ?_; conv => whnf) | (refine optK_of (dripA (by omega) (by omega)) ?_; conv => whnf) | (refine optK_of (roofN (by omega) (by omega)) ?_; conv => whnf) | (refine optK_of (gridN (by omega) (by omega)) ?_; conv => whnf) | (refine optK_of (flowG) ?_; conv => whnf) | (refine optK_of (flowM) ?_; conv => whnf) | (refine optK_of (intA (by omega)) ?_; conv => whnf) | (refine optK_of (intA' (by omega)) ?_; conv => whnf))
  have z0 : ∀ i c, (2 * r.w + 1).toNat ≤ c → dR r w i c = 0 := fun i c h => by unfold dR; rw [if_neg (by unfold onR; omega)]
  have z1 : ∀ i c, (2 * r.w + 1).toNat ≤ c → cmR r w i c = 0 := fun i c h => by unfold cmR; rw [if_neg (by unfold onR; omega)]
  cases h1 : decide ((c : Int) < 2 * r.w + 1)
  · have hcn : c = (2 * r.w + 1).toNat := by simp at h1; omega
    subst hcn
    rw [ptR_all z0, ptR_all z1]
    conv => whnf
    repeat (first | (refine And.intro (by first | exact Nat.le_of_ble_eq_true rfl | exact mapOkP | exact rfl | decide | omega | (simp [splice]; done) | (constructor <;> omega) | (simp [splice]; omega)) ?_; conv => whnf) | (refine optK_of (raiA (by omega)) ?_; conv => whnf) | (refine optK_of (raiA' (by omega)) ?_; conv => whnf) | (refine optK_of (dripA (by omega) (by omega)) ?_; conv => whnf) | (refine optK_of (roofN (by omega) (by omega)) ?_; conv => whnf) | (refine optK_of (gridN (by omega) (by omega)) ?_; conv => whnf) | (refine optK_of (flowG) ?_; conv => whnf) | (refine optK_of (flowM) ?_; conv => whnf) | (refine optK_of (intA (by omega)) ?_; conv => whnf) | (refine optK_of (intA' (by omega)) ?_; conv => whnf))
    first | refine ⟨rfl, _, rfl, ?_⟩ | refine ⟨_, rfl, ?_⟩
    skip
    rw [show intsD true (gtL r w (2 * r.w + 1).toNat) = .row true 1 (.v (.agg ⟨intsC (gtL r w (2 * r.w + 1).toNat)⟩)) (2 * r.w + 1).toNat by unfold intsD; rw [gtL_len]]
    exact congrArg2 (fun l l' => D.tup [.v (.agg ⟨l⟩), .v (.agg ⟨l'⟩), .row true 1 (.v (.agg ⟨intsC (gtL r w (2 * r.w + 1).toNat)⟩)) (2 * r.w + 1).toNat]) (two136 (x := dripC fun _ _ => 0) (y := dripC (dR r w)) (by simp) (by simp)) (two136 (x := dripC fun _ _ => 0) (y := dripC (cmR r w)) (by simp) (by simp))
  have hcn : (c : Int) < 2 * r.w + 1 := by simpa using h1
  have hwc := hw c (by omega)
  conv => whnf
  repeat (first | (refine And.intro (by first | exact Nat.le_of_ble_eq_true rfl | exact mapOkP | exact rfl | decide | omega | (simp [splice]; done) | (constructor <;> omega) | (simp [splice]; omega)) ?_; conv => whnf) | (refine optK_of (raiA (by omega)) ?_; conv => whnf) | (refine optK_of (raiA' (by omega)) ?_; conv => whnf) | (refine optK_of (dripA (by omega) (by omega)) ?_; conv => whnf) | (refine optK_of (roofN (by omega) (by omega)) ?_; conv => whnf) | (refine optK_of (gridN (by omega) (by omega)) ?_; conv => whnf) | (refine optK_of (flowG) ?_; conv => whnf) | (refine optK_of (flowM) ?_; conv => whnf) | (refine optK_of (intA (by omega)) ?_; conv => whnf) | (refine optK_of (intA' (by omega)) ?_; conv => whnf))
  rw [show IntKind.i64.wrap (w c) = w c from w64 (by omega) (by omega)]
  refine loop_rule (α := Nat) (fun i => [(0, .ref false (roofD r) 0), (1, .ref false (raiD w) 0), (4, .ptr (4, 0, 0) 0), (5, .ptr (5, 0, 0) 0), (7, .ptr (7, 0, 0) 0), (8, .ptr (8, 0, 0) 0), (9, .slc true 1 (16, 0, 0) 0 c), (10, .v (.int .i64 c)), (11, .v (.int .i64 (wtI r w c i))), (12, .v (.int .i64 i))]) (fun i => [((4, 0, 0), dripD (fun _ _ => 0)), ((5, 0, 0), dripD (fun _ _ => 0)), ((7, 0, 0), dripD (ptR (dR r w) c i)), ((8, 0, 0), dripD (ptR (cmR r w) c i)), ((16, 0, 0), .v (.agg ⟨intsC (gtL r w c)⟩))]) (fun i => i ≤ r.h.toNat) (fun i => r.h.toNat - i) (0) ?_ (sim_of (rn := [((4, 0, 0), (4, 0, 0)), ((5, 0, 0), (5, 0, 0)), ((7, 0, 0), (7, 0, 0)), ((8, 0, 0), (8, 0, 0)), ((16, 0, 0), (16, 0, 0))]) rfl ?_ ?_) ?_
  · first | omega | (dsimp only; omega) | ((repeat' apply And.intro) <;> omega) | (dsimp only; (repeat' apply And.intro) <;> omega) | trivial
  · ((repeat' (first | exact trivial | apply And.intro)) <;> (first | rfl | exact succ8 (by omega) | exact succ64 (by omega) | exact CapOk.fn (by assumption) _ _ | exact vintS (by omega) | exact vintS (by rw [w64 (by omega) (by omega)]; omega) | exact vintS (by rw [w8 (by omega) (by omega)]; omega) | exact vslcS (by omega) | exact vslcS (by simp)))
  · ((repeat' (first | exact trivial | apply And.intro)) <;> ((first | refine ⟨_, _, rfl, rfl, ?_⟩ | refine ⟨_, _, rfl, renFlow rfl rfl, ?_⟩); rfl))
  intro i hi
  have hwi := wtI_in r (w := w) (c := c) hwc i
  have hdi := drI_in r i c hwi.1
  conv => whnf
  repeat (first | (refine And.intro (by first | exact Nat.le_of_ble_eq_true rfl | exact mapOkP | exact rfl | decide | omega | (simp [splice]; done) | (constructor <;> omega) | (simp [splice]; omega)) ?_; conv => whnf) | (refine optK_of (raiA (by omega)) ?_; conv => whnf) | (refine optK_of (raiA' (by omega)) ?_; conv => whnf) | (refine optK_of (dripA (by omega) (by omega)) ?_; conv => whnf) | (refine optK_of (roofN (by omega) (by omega)) ?_; conv => whnf) | (refine optK_of (gridN (by omega) (by omega)) ?_; conv => whnf) | (refine optK_of (flowG) ?_; conv => whnf) | (refine optK_of (flowM) ?_; conv => whnf) | (refine optK_of (intA (by omega)) ?_; conv => whnf) | (refine optK_of (intA' (by omega)) ?_; conv => whnf))
  rw [eh]
  cases h2 : decide ((i : Int) < r.h)
  · have hih : i = r.h.toNat := by simp at h2; omega
    subst hih
    have e2 : intsC (gtL r w c) ++ [.int .i64 (wtI r w c r.h.toNat)] = intsC (gtL r w (c + 1)) := by rw [gtL_next, intsC_append, intsC_one]
    have c0 : ptR (dR r w) c r.h.toNat = ptR (dR r w) (c + 1) 0 := ptR_col fun i hi => by unfold dR; rw [if_neg (by unfold onR; omega)]
    have c1 : ptR (cmR r w) c r.h.toNat = ptR (cmR r w) (c + 1) 0 := ptR_col fun i hi => by unfold cmR; rw [if_neg (by unfold onR; omega)]
    rw [c0, c1]
    conv => whnf
    repeat (first | (refine And.intro (by first | exact Nat.le_of_ble_eq_true rfl | exact mapOkP | exact rfl | decide | omega | (simp [splice]; done) | (constructor <;> omega) | (simp [splice]; omega)) ?_; conv => whnf) | (refine optK_of (raiA (by omega)) ?_; conv => whnf) | (refine optK_of (raiA' (by omega)) ?_; conv => whnf) | (refine optK_of (dripA (by omega) (by omega)) ?_; conv => whnf) | (refine optK_of (roofN (by omega) (by omega)) ?_; conv => whnf) | (refine optK_of (gridN (by omega) (by omega)) ?_; conv => whnf) | (refine optK_of (flowG) ?_; conv => whnf) | (refine optK_of (flowM) ?_; conv => whnf) | (refine optK_of (intA (by omega)) ?_; conv => whnf) | (refine optK_of (intA' (by omega)) ?_; conv => whnf))
    refine ⟨c + 1, ?_, ?_, sim_of (rn := [((4, 0, 0), (4, 0, 0)), ((5, 0, 0), (5, 0, 0)), ((7, 0, 0), (7, 0, 0)), ((8, 0, 0), (8, 0, 0)), ((16, 0, 0), (61, 1, 0))]) rfl ?_ ?_⟩
    · (dsimp only; omega)
    · first | omega | (dsimp only; omega) | ((repeat' apply And.intro) <;> omega) | (dsimp only; (repeat' apply And.intro) <;> omega) | trivial
    · ((repeat' (first | exact trivial | apply And.intro)) <;> (first | rfl | exact succ8 (by omega) | exact succ64 (by omega) | exact CapOk.fn (by assumption) _ _ | exact vintS (by omega) | exact vintS (by rw [w64 (by omega) (by omega)]; omega) | exact vintS (by rw [w8 (by omega) (by omega)]; omega) | exact vslcS (by omega) | exact vslcS (by simp)))
    · ((repeat' (first | exact trivial | apply And.intro)) <;> ((first | refine ⟨_, _, rfl, rfl, ?_⟩ | refine ⟨_, _, rfl, renFlow rfl rfl, ?_⟩); first | (exact cset e2) | rfl))
  have hih : (i : Int) < r.h := by simpa using h2
  have hon : onR r i c := ⟨hih, hcn⟩
  have ed : dR r w i c = drI r i c (wtI r w c i) := by unfold dR; rw [if_pos hon]
  have em : cmR r w i c = wtI r w c i := by unfold cmR; rw [if_pos hon]
  conv => whnf
  repeat (first | (refine And.intro (by first | exact Nat.le_of_ble_eq_true rfl | exact mapOkP | exact rfl | decide | omega | (simp [splice]; done) | (constructor <;> omega) | (simp [splice]; omega)) ?_; conv => whnf) | (refine optK_of (raiA (by omega)) ?_; conv => whnf) | (refine optK_of (raiA' (by omega)) ?_; conv => whnf) | (refine optK_of (dripA (by omega) (by omega)) ?_; conv => whnf) | (refine optK_of (roofN (by omega) (by omega)) ?_; conv => whnf) | (refine optK_of (gridN (by omega) (by omega)) ?_; conv => whnf) | (refine optK_of (flowG) ?_; conv => whnf) | (refine optK_of (flowM) ?_; conv => whnf) | (refine optK_of (intA (by omega)) ?_; conv => whnf) | (refine optK_of (intA' (by omega)) ?_; conv => whnf))
  first | refine ⟨_, _, rfl, Sat.of_eq (l02Drip_sat r hr hb i c (by omega) (by omega) (wtI r w c i) hwi) (by repeat (first | rfl | exact vfull (by first | (simp [splice]; done) | (simp [splice]; omega)) | exact rfull (by first | (simp [splice]; done) | (simp [splice]; omega)) | exact vplace (by simp; done) (by omega) | exact vrow (by simp; done) (by omega) | exact vtiles (by simp) | exact vsplice (by simp) (by simp) | refine ceq ?_ ?_ | refine Eq.trans (vsplice (by first | (simp; done) | (simp; omega)) (by first | (simp; done) | (simp; omega))) ?_)), ?_⟩ | refine .inl ⟨_, _, rfl, Sat.of_eq (l02Drip_sat r hr hb i c (by omega) (by omega) (wtI r w c i) hwi) (by repeat (first | rfl | exact vfull (by first | (simp [splice]; done) | (simp [splice]; omega)) | exact rfull (by first | (simp [splice]; done) | (simp [splice]; omega)) | exact vplace (by simp; done) (by omega) | exact vrow (by simp; done) (by omega) | exact vtiles (by simp) | exact vsplice (by simp) (by simp) | refine ceq ?_ ?_ | refine Eq.trans (vsplice (by first | (simp; done) | (simp; omega)) (by first | (simp; done) | (simp; omega))) ?_)), ?_⟩
  conv => whnf
  repeat (first | (refine And.intro (by first | exact Nat.le_of_ble_eq_true rfl | exact mapOkP | exact rfl | decide | omega | (simp [splice]; done) | (constructor <;> omega) | (simp [splice]; omega)) ?_; conv => whnf) | (refine optK_of (raiA (by omega)) ?_; conv => whnf) | (refine optK_of (raiA' (by omega)) ?_; conv => whnf) | (refine optK_of (dripA (by omega) (by omega)) ?_; conv => whnf) | (refine optK_of (roofN (by omega) (by omega)) ?_; conv => whnf) | (refine optK_of (gridN (by omega) (by omega)) ?_; conv => whnf) | (refine optK_of (flowG) ?_; conv => whnf) | (refine optK_of (flowM) ?_; conv => whnf) | (refine optK_of (intA (by omega)) ?_; conv => whnf) | (refine optK_of (intA' (by omega)) ?_; conv => whnf))
  have setD : (dripC (ptR (dR r w) c i)).set (0 + (i : Int).toNat * 17 + (c : Int).toNat * 1) (.int .i32 (IntKind.i32.wrap (drI r i c (wtI r w c i)))) = dripC (ptR (dR r w) c (i + 1)) := by
    rw [w32 (by omega) (by omega), drip_set (i := i) (c := c) (by simp) (by omega) (by omega), ← ed, ptR_put]
  have setM : (dripC (ptR (cmR r w) c i)).set (0 + (i : Int).toNat * 17 + (c : Int).toNat * 1) (.int .i32 (IntKind.i32.wrap (wtI r w c i))) = dripC (ptR (cmR r w) c (i + 1)) := by
    rw [w32 (by omega) (by omega), drip_set (i := i) (c := c) (by simp) (by omega) (by omega), ← em, ptR_put]
  have ew : wtI r w c (i + 1) = IntKind.i64.wrap (wtI r w c i - drI r i c (wtI r w c i)) := by rw [w64 (by omega) (by omega)]; rfl
  refine ⟨i + 1, ?_, ?_, sim_of (rn := [((4, 0, 0), (4, 0, 0)), ((5, 0, 0), (5, 0, 0)), ((7, 0, 0), (7, 0, 0)), ((8, 0, 0), (8, 0, 0)), ((16, 0, 0), (16, 0, 0))]) rfl ?_ ?_⟩
  · (dsimp only; omega)
  · first | omega | (dsimp only; omega) | ((repeat' apply And.intro) <;> omega) | (dsimp only; (repeat' apply And.intro) <;> omega) | trivial
  · ((repeat' (first | exact trivial | apply And.intro)) <;> (first | rfl | (exact vintS ew) | exact succ8 (by omega) | exact succ64 (by omega) | exact CapOk.fn (by assumption) _ _ | exact vintS (by omega) | exact vintS (by rw [w64 (by omega) (by omega)]; omega) | exact vintS (by rw [w8 (by omega) (by omega)]; omega) | exact vslcS (by omega) | exact vslcS (by simp)))
  · ((repeat' (first | exact trivial | apply And.intro)) <;> ((first | refine ⟨_, _, rfl, rfl, ?_⟩ | refine ⟨_, _, rfl, renFlow rfl rfl, ?_⟩); first | (first | exact cset setD | exact cset setM) | rfl))
end Go.Proofs.Ytndlknhakdadjaa
