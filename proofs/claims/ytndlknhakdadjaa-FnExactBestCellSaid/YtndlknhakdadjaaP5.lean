import Derived.Test.YtndlknhakdadjaaP4
/- Contracts: numbers for roofs that drip alike; the cell upon which rain has to fall; both sides, and the laws. -/
set_option linter.unusedVariables false
set_option linter.unusedSimpArgs false
namespace Go.V
theorem csK_zero {rs : List Roof} {w : Nat → Int} {b : Bool} (h : csK rs w b = 0) : rs.all (fun r => okN r w) = true ∧ b = true ∧ rs.length ≤ 6 ∧ casI rs = 0 := by
  unfold csK at h
  split at h
  · rename_i h1
    split at h
    · rename_i h2
      refine ⟨h1, h2, ?_, h⟩
      unfold casI at h
      split at h
      · omega
      · omega
    · omega
  · omega
theorem csK_Rb {rs : List Roof} {w : Nat → Int} (h : rs.all (fun r => okN r w) = true) : ∀ i, i < rs.length → Rb (rx rs i) := fun i hi => okR_bounds (okN_R (rx_all h hi))
/-- The greatest of the first i + 1 numbers. -/
def mxL (f : Nat → Int) : Nat → Int
  | 0 => f 0
  | i + 1 => if f (i + 1) > mxL f i then f (i + 1) else mxL f i
theorem mxL_go (F : Nat → Tb) (n : Nat) : ∀ i, i < n → mxL (ix (goL F n)) i = ((snL F (i + 1)).length : Int) - 1
  | 0, h => by
    have e : gNo (snL F 0) (F 0) = 0 := by have := gNo_le (snL F 0) (F 0); simp [snL] at this; exact this
    have e2 : (snL F 1).length = 1 := by
      rw [snL_yes (by have := gIx_range (snL F 0) (F 0); simp [snL] at this ⊢; omega)]; simp [snL]
    show ix (goL F n) 0 = _
    unfold goL
    rw [qL_ix h, e, e2]; rfl
  | i + 1, h => by
    have ih := mxL_go F n i (by omega)
    have e : ix (goL F n) (i + 1) = ((gNo (snL F (i + 1)) (F (i + 1)) : Nat) : Int) := by unfold goL; rw [qL_ix h]
    have hr := gIx_range (snL F (i + 1)) (F (i + 1))
    simp only [mxL, e, ih]
    by_cases hg : gIx (snL F (i + 1)) (F (i + 1)) < 0
    · have h1 : gNo (snL F (i + 1)) (F (i + 1)) = (snL F (i + 1)).length := by unfold gNo; rw [if_pos hg]
      rw [snL_yes hg, h1, if_pos (by omega), List.length_append]
      simp
    · have h1 : ((gNo (snL F (i + 1)) (F (i + 1)) : Nat) : Int) = gIx (snL F (i + 1)) (F (i + 1)) := by unfold gNo; rw [if_neg hg]; omega
      rw [snL_no hg, h1, if_neg (by omega)]
/-- Rain in one cell. -/
def wC (c : Nat) (a : Int) : Nat → Int := putW (fun _ => 0) c a
theorem wC_in {a : Int} (h : 0 ≤ a ∧ a ≤ 1000) (c : Nat) : W1 (wC c a) := fun j _ => by unfold wC putW; dsimp only; split <;> omega
theorem cell_set {c o : Nat} {a : Int} (ho : o = c) : (List.replicate 17 (Value.int .i16 0)).set o (.int .i16 a) = raiC (wC c a) := by rw [← raiC_zero, rai_set ho]; rfl
theorem vcell {xs : List Value} {c o : Nat} {a : Int} (hx : xs = List.replicate 17 (.int .i16 0)) (ho : o = c) (hc : c < 17) : D.v (.agg ⟨((xs.set o (.int .i16 a)).drop 0).take 17⟩) = raiD (wC c a) := by
  subst hx; rw [cell_set ho, take_drop0 (by simp)]; rfl
theorem vcellR {xs : List Value} {c o : Nat} {a : Int} (hx : xs = List.replicate 17 (.int .i16 0)) (ho : o = c) (hc : c < 17) : D.ref false (.v (.agg ⟨xs.set o (.int .i16 a)⟩)) 0 = .ref false (raiD (wC c a)) 0 := by
  subst hx; rw [cell_set ho]; rfl
theorem vcellS {xs : List Value} {c o : Nat} {a : Int} (hx : xs.length = 17) (ho : o = c) (hc : c < 17) : D.ref false (.v (.agg ⟨(splice xs 0 (List.replicate 17 (.int .i16 0))).set o (.int .i16 a)⟩)) 0 = .ref false (raiD (wC c a)) 0 := by
  rw [splice_all (by simpa using hx), cell_set ho]; rfl
theorem vzeroR : D.ref false (.v (.agg ⟨splice (List.replicate 17 (Value.int .i16 0)) 0 (List.replicate 17 (.int .i16 0))⟩)) 0 = .ref false (raiD fun _ => 0) 0 := by unfold raiD; rw [raiC_zero]; rfl
def bcN (rs : List Roof) (a : Int) (c : Nat) : Int := ((snL (Fr rs (wC c a)) rs.length).length : Nat)
def bcF (rs : List Roof) (a : Int) : Nat → Int × Int
  | 0 => (0, 0)
  | c + 1 => if bcN rs a c > (bcF rs a c).2 then ((c : Int), bcN rs a c) else bcF rs a c
def bcAm (a : Int) : Bool := decide (1 ≤ a) && decide (a ≤ 1000)
def bclK (rs : List Roof) (a : Int) : Int := if csK rs (fun _ => 0) (bcAm a) = 0 then (if rs.length = 0 then 6 else 0) else csK rs (fun _ => 0) (bcAm a)
def bclB (rs : List Roof) (a : Int) : Int × Int := if bclK rs a = 0 then bcF rs a (2 * (rx rs 0).w + 1).toNat else (0, 0)
def bclV (rs : List Roof) (a : Int) : D := .tup [.v (.int .i64 (bclB rs a).1), .v (.int .i64 (bclB rs a).2), .v (.int .i64 (bclK rs a))]
theorem bclV_err {rs : List Roof} {a k : Int} (h : bclK rs a = k) (hk : k ≠ 0) : bclV rs a = .tup [.v (.int .i64 0), .v (.int .i64 0), .v (.int .i64 k)] := by
  unfold bclV bclB
  rw [h, if_neg hk]
theorem bclV_ok {rs : List Roof} {a : Int} (h : bclK rs a = 0) : bclV rs a = .tup [.v (.int .i64 (bcF rs a (2 * (rx rs 0).w + 1).toNat).1), .v (.int .i64 (bcF rs a (2 * (rx rs 0).w + 1).toNat).2), .v (.int .i64 0)] := by
  unfold bclV bclB
  rw [h, if_pos rfl]
theorem bcN_in (rs : List Roof) (a : Int) (c : Nat) : 0 ≤ bcN rs a c ∧ bcN rs a c ≤ rs.length := by
  have := snL_len (Fr rs (wC c a)) rs.length
  unfold bcN; omega
theorem okN_dry (r : Roof) : okN r (fun _ => 0) = okR r := by
  cases h : okR r
  · unfold okN; rw [h]; rfl
  · exact okN_yes h fun c _ => by unfold rnB deepB; simp
theorem csK_dry (rs : List Roof) (b : Bool) : csK rs (fun _ => 0) b = if rs.all okR = true then (if b = true then casI rs else 2) else 1 := by
  unfold csK
  rw [show (fun r => okN r fun _ => 0) = okR from funext okN_dry]
theorem raiIn_zero : RaiIn fun _ => 0 := ⟨fun _ => by omega⟩
theorem bcF_one {rs : List Roof} {a : Int} {c : Nat} (h : bcN rs a c > (bcF rs a c).2) : bcF rs a (c + 1) = ((c : Int), bcN rs a c) := by simp only [bcF, if_pos h]
theorem bcF_two {rs : List Roof} {a : Int} {c : Nat} (h : ¬ bcN rs a c > (bcF rs a c).2) : bcF rs a (c + 1) = bcF rs a c := by simp only [bcF, if_neg h]
end Go.V
namespace Go.Proofs.Ytndlknhakdadjaa
open Go.V
theorem maxI_sat (xs : List Int) (hl : xs.length ≤ 1048576) (hp : 0 < xs.length) (m : Bool) : Sat Try.prog 96 [intsD m xs] (.v (.int .i64 (mxL (ix xs) (xs.length - 1)))) := by
  have h0 : ¬ (xs.length : Int) < 1 := by omega
  refine sat_of_wp hMix tOk Try.func96 rfl rfl Try.ntmps96 rfl rfl Try.results96 (by kernel_rfl) ?_
  conv => whnf
  repeat (first | (refine And.intro (by first | exact Nat.le_of_ble_eq_true rfl | exact rfl | decide | omega | (simp [splice]; done) | (constructor <;> omega) | (simp [splice]; omega)) ?_; conv => whnf) | (refine optK_of (intA (by omega)) ?_; conv => whnf) | (refine optK_of (intA' (by omega)) ?_; conv => whnf))
  cases h1 : decide ((xs.length : Int) < 1)
  case true => exact absurd (by simpa using h1) h0
  conv => whnf
  repeat (first | (refine And.intro (by first | exact Nat.le_of_ble_eq_true rfl | exact rfl | decide | omega | (simp [splice]; done) | (constructor <;> omega) | (simp [splice]; omega)) ?_; conv => whnf) | (refine optK_of (intA (by omega)) ?_; conv => whnf) | (refine optK_of (intA' (by omega)) ?_; conv => whnf))
  refine loop_rule (α := Nat) (fun i => [(0, intsD m xs), (3, .v (.int .i64 (mxL (ix xs) i))), (4, .v (.int .i64 ((i + 1 : Nat) : Int)))]) (fun i => []) (fun i => i + 1 ≤ xs.length) (fun i => xs.length - i) (0) ?_ (sim_of (rn := []) rfl ?_ ?_) ?_
  · first | omega | (dsimp only; omega) | ((repeat' apply And.intro) <;> omega) | (dsimp only; (repeat' apply And.intro) <;> omega) | trivial
  · ((repeat' (first | exact trivial | apply And.intro)) <;> (first | rfl | exact succ8 (by omega) | exact succ64 (by omega) | exact CapOk.fn (by assumption) _ _ | exact vintS (by omega) | exact vintS (by rw [w64 (by omega) (by omega)]; omega) | exact vintS (by rw [w8 (by omega) (by omega)]; omega) | exact vslcS (by omega) | exact vslcS (by simp)))
  · ((repeat' (first | exact trivial | apply And.intro)) <;> ((first | refine ⟨_, _, rfl, rfl, ?_⟩ ); rfl))
  intro i hi
  conv => whnf
  repeat (first | (refine And.intro (by first | exact Nat.le_of_ble_eq_true rfl | exact rfl | decide | omega | (simp [splice]; done) | (constructor <;> omega) | (simp [splice]; omega)) ?_; conv => whnf) | (refine optK_of (intA (by omega)) ?_; conv => whnf) | (refine optK_of (intA' (by omega)) ?_; conv => whnf))
  cases h : decide (((i + 1 : Nat) : Int) < (xs.length : Int))
  · have hin : i = xs.length - 1 := by simp at h; omega
    subst hin
    conv => whnf
    repeat (first | (refine And.intro (by first | exact Nat.le_of_ble_eq_true rfl | exact rfl | decide | omega | (simp [splice]; done) | (constructor <;> omega) | (simp [splice]; omega)) ?_; conv => whnf) | (refine optK_of (intA (by omega)) ?_; conv => whnf) | (refine optK_of (intA' (by omega)) ?_; conv => whnf))
    first | refine ⟨rfl, _, rfl, ?_⟩ | refine ⟨_, rfl, ?_⟩
    rfl
  have hin : i + 1 < xs.length := by simp at h; omega
  conv => whnf
  repeat (first | (refine And.intro (by first | exact Nat.le_of_ble_eq_true rfl | exact rfl | decide | omega | (simp [splice]; done) | (constructor <;> omega) | (simp [splice]; omega)) ?_; conv => whnf) | (refine optK_of (intA (by omega)) ?_; conv => whnf) | (refine optK_of (intA' (by omega)) ?_; conv => whnf))
  refine ⟨i + 1, ?_, ?_, sim_of (rn := []) rfl ?_ ?_⟩
  · (dsimp only; omega)
  · first | omega | (dsimp only; omega) | ((repeat' apply And.intro) <;> omega) | (dsimp only; (repeat' apply And.intro) <;> omega) | trivial
  · ((repeat' (first | exact trivial | apply And.intro)) <;> (first | rfl | (exact vintS rfl) | exact succ8 (by omega) | exact succ64 (by omega) | exact CapOk.fn (by assumption) _ _ | exact vintS (by omega) | exact vintS (by rw [w64 (by omega) (by omega)]; omega) | exact vintS (by rw [w8 (by omega) (by omega)]; omega) | exact vslcS (by omega) | exact vslcS (by simp)))
  · ((repeat' (first | exact trivial | apply And.intro)) <;> ((first | refine ⟨_, _, rfl, rfl, ?_⟩ ); rfl))
theorem specBestCell_sat (rs : List Roof) (hl : rs.length ≤ 1048576) (hR : AllR rs) (a : Int) (m : Bool) : Sat Try.prog 33 [roofsD m rs, .v (.int .i64 a)] (bclV rs a) := by
  have hz0 : csK rs (fun _ => 0) (decide (a ≥ 1) && decide (a ≤ 1000)) = csK rs (fun _ => 0) (bcAm a) := rfl
  refine sat_of_wp hMix tOk Try.func33 rfl rfl Try.ntmps33 rfl rfl Try.results33 (by kernel_rfl) ?_
  conv => whnf
  repeat (first | (refine And.intro (by first | exact Nat.le_of_ble_eq_true rfl | exact rfl | decide | omega | (simp [splice]; done) | (constructor <;> omega) | (simp [splice]; omega)) ?_; conv => whnf) | (refine optK_of (intA (by omega)) ?_; conv => whnf) | (refine optK_of (intA' (by omega)) ?_; conv => whnf))
  first | refine ⟨_, _, rfl, Sat.of_eq (l00In_sat a 1 1000) (by repeat (first | rfl | exact vfull (by first | (simp [splice]; done) | (simp [splice]; omega)) | exact rfull (by first | (simp [splice]; done) | (simp [splice]; omega)) | exact vzeroR | exact vroofs (by simp; done) (by omega) | exact vcell rfl (by simp) hc17 | exact vcellR rfl (by simp) hc17 | exact vcellS (by simp) (by simp) hc17 | exact vsplice (by simp) (by simp) | refine ceq ?_ ?_ | refine Eq.trans (vsplice (by first | (simp; done) | (simp; omega)) (by first | (simp; done) | (simp; omega))) ?_)), ?_⟩ | refine .inl ⟨_, _, rfl, Sat.of_eq (l00In_sat a 1 1000) (by repeat (first | rfl | exact vfull (by first | (simp [splice]; done) | (simp [splice]; omega)) | exact rfull (by first | (simp [splice]; done) | (simp [splice]; omega)) | exact vzeroR | exact vroofs (by simp; done) (by omega) | exact vcell rfl (by simp) hc17 | exact vcellR rfl (by simp) hc17 | exact vcellS (by simp) (by simp) hc17 | exact vsplice (by simp) (by simp) | refine ceq ?_ ?_ | refine Eq.trans (vsplice (by first | (simp; done) | (simp; omega)) (by first | (simp; done) | (simp; omega))) ?_)), ?_⟩
  conv => whnf
  repeat (first | (refine And.intro (by first | exact Nat.le_of_ble_eq_true rfl | exact rfl | decide | omega | (simp [splice]; done) | (constructor <;> omega) | (simp [splice]; omega)) ?_; conv => whnf) | (refine optK_of (intA (by omega)) ?_; conv => whnf) | (refine optK_of (intA' (by omega)) ?_; conv => whnf))
  first | refine ⟨_, _, rfl, Sat.of_eq (l03Cases_sat rs hl hR (fun _ => 0) raiIn_zero _ false) (by repeat (first | rfl | exact vfull (by first | (simp [splice]; done) | (simp [splice]; omega)) | exact rfull (by first | (simp [splice]; done) | (simp [splice]; omega)) | exact vzeroR | exact vroofs (by simp; done) (by omega) | exact vcell rfl (by simp) hc17 | exact vcellR rfl (by simp) hc17 | exact vcellS (by simp) (by simp) hc17 | exact vsplice (by simp) (by simp) | refine ceq ?_ ?_ | refine Eq.trans (vsplice (by first | (simp; done) | (simp; omega)) (by first | (simp; done) | (simp; omega))) ?_)), ?_⟩ | refine .inl ⟨_, _, rfl, Sat.of_eq (l03Cases_sat rs hl hR (fun _ => 0) raiIn_zero _ false) (by repeat (first | rfl | exact vfull (by first | (simp [splice]; done) | (simp [splice]; omega)) | exact rfull (by first | (simp [splice]; done) | (simp [splice]; omega)) | exact vzeroR | exact vroofs (by simp; done) (by omega) | exact vcell rfl (by simp) hc17 | exact vcellR rfl (by simp) hc17 | exact vcellS (by simp) (by simp) hc17 | exact vsplice (by simp) (by simp) | refine ceq ?_ ?_ | refine Eq.trans (vsplice (by first | (simp; done) | (simp; omega)) (by first | (simp; done) | (simp; omega))) ?_)), ?_⟩
  conv => whnf
  repeat (first | (refine And.intro (by first | exact Nat.le_of_ble_eq_true rfl | exact rfl | decide | omega | (simp [splice]; done) | (constructor <;> omega) | (simp [splice]; omega)) ?_; conv => whnf) | (refine optK_of (intA (by omega)) ?_; conv => whnf) | (refine optK_of (intA' (by omega)) ?_; conv => whnf))
  rw [hz0]
  cases h1 : (csK rs (fun _ => 0) (bcAm a) == 0)
  · have h1' : ¬ csK rs (fun _ => 0) (bcAm a) = 0 := by simpa using h1
    rw [bclV_err (k := csK rs (fun _ => 0) (bcAm a)) (by unfold bclK; rw [if_neg h1']) h1']
    conv => whnf
    repeat (first | (refine And.intro (by first | exact Nat.le_of_ble_eq_true rfl | exact rfl | decide | omega | (simp [splice]; done) | (constructor <;> omega) | (simp [splice]; omega)) ?_; conv => whnf) | (refine optK_of (intA (by omega)) ?_; conv => whnf) | (refine optK_of (intA' (by omega)) ?_; conv => whnf))
    rw [show (csK rs (fun _ => 0) (bcAm a) != 0) = true by simpa using h1']
    conv => whnf
    repeat (first | (refine And.intro (by first | exact Nat.le_of_ble_eq_true rfl | exact rfl | decide | omega | (simp [splice]; done) | (constructor <;> omega) | (simp [splice]; omega)) ?_; conv => whnf) | (refine optK_of (intA (by omega)) ?_; conv => whnf) | (refine optK_of (intA' (by omega)) ?_; conv => whnf))
    first | refine ⟨rfl, _, rfl, ?_⟩ | refine ⟨_, rfl, ?_⟩
    rfl
  have hz : csK rs (fun _ => 0) (bcAm a) = 0 := by simpa using h1
  obtain ⟨ha, hb0, h6, _⟩ := csK_zero hz
  have ham : 1 ≤ a ∧ a ≤ 1000 := by unfold bcAm at hb0; simpa using hb0
  rw [hz]
  conv => whnf
  repeat (first | (refine And.intro (by first | exact Nat.le_of_ble_eq_true rfl | exact rfl | decide | omega | (simp [splice]; done) | (constructor <;> omega) | (simp [splice]; omega)) ?_; conv => whnf) | (refine optK_of (intA (by omega)) ?_; conv => whnf) | (refine optK_of (intA' (by omega)) ?_; conv => whnf))
  cases h2 : ((rs.length : Int) == 0)
  case true =>
    have h0 : rs.length = 0 := by have : (rs.length : Int) = 0 := by simpa using h2
                                  omega
    rw [bclV_err (k := 6) (by unfold bclK; rw [if_pos hz, if_pos h0]) (by omega)]
    conv => whnf
    repeat (first | (refine And.intro (by first | exact Nat.le_of_ble_eq_true rfl | exact rfl | decide | omega | (simp [splice]; done) | (constructor <;> omega) | (simp [splice]; omega)) ?_; conv => whnf) | (refine optK_of (intA (by omega)) ?_; conv => whnf) | (refine optK_of (intA' (by omega)) ?_; conv => whnf))
    first | refine ⟨rfl, _, rfl, ?_⟩ | refine ⟨_, rfl, ?_⟩
    rfl
  have h0 : 0 < rs.length := by have : ¬ (rs.length : Int) = 0 := by simpa using h2
                                omega
  rw [bclV_ok (by unfold bclK; rw [if_pos hz, if_neg (by omega)])]
  have hb := csK_Rb ha
  have hb0' := hb 0 h0
  conv => whnf
  repeat (first | (refine And.intro (by first | exact Nat.le_of_ble_eq_true rfl | exact rfl | decide | omega | (simp [splice]; done) | (constructor <;> omega) | (simp [splice]; omega)) ?_; conv => whnf) | (refine optK_of (intA (by omega)) ?_; conv => whnf) | (refine optK_of (intA' (by omega)) ?_; conv => whnf))
  refine loop_rule (α := Nat) (fun c => [(0, roofsD m rs), (1, .v (.int .i64 a)), (9, .v (.int .i64 (bcF rs a c).1)), (10, .v (.int .i64 (bcF rs a c).2)), (11, .v (.int .i64 c))]) (fun c => []) (fun c => c ≤ (2 * (rx rs 0).w + 1).toNat) (fun c => (2 * (rx rs 0).w + 1).toNat - c) (0) ?_ (sim_of (rn := []) rfl ?_ ?_) ?_
  · first | omega | (dsimp only; omega) | ((repeat' apply And.intro) <;> omega) | (dsimp only; (repeat' apply And.intro) <;> omega) | trivial
  · ((repeat' (first | exact trivial | apply And.intro)) <;> (first | rfl | exact succ8 (by omega) | exact succ64 (by omega) | exact CapOk.fn (by assumption) _ _ | exact vintS (by omega) | exact vintS (by rw [w64 (by omega) (by omega)]; omega) | exact vintS (by rw [w8 (by omega) (by omega)]; omega) | exact vslcS (by omega) | exact vslcS (by simp)))
  · ((repeat' (first | exact trivial | apply And.intro)) <;> ((first | refine ⟨_, _, rfl, rfl, ?_⟩ ); rfl))
  intro c hc
  conv => whnf
  repeat (first | (refine And.intro (by first | exact Nat.le_of_ble_eq_true rfl | exact rfl | decide | omega | (simp [splice]; done) | (constructor <;> omega) | (simp [splice]; omega)) ?_; conv => whnf) | (refine optK_of (intA (by omega)) ?_; conv => whnf) | (refine optK_of (intA' (by omega)) ?_; conv => whnf))
  first | refine ⟨_, _, rfl, Sat.of_eq (Sat.sub (xs := roofsC rs) (off := Int.toNat 0 * 67) (n := 67) (l01Cells_sat (rx rs 0) (hR 0 h0) hb0') (roofs_sub (i := 0) (by simp) h0) (roofC_len _) (by omega)) (by repeat (first | rfl | exact vfull (by first | (simp [splice]; done) | (simp [splice]; omega)) | exact rfull (by first | (simp [splice]; done) | (simp [splice]; omega)) | exact vzeroR | exact vroofs (by simp; done) (by omega) | exact vcell rfl (by simp) hc17 | exact vcellR rfl (by simp) hc17 | exact vcellS (by simp) (by simp) hc17 | exact vsplice (by simp) (by simp) | refine ceq ?_ ?_ | refine Eq.trans (vsplice (by first | (simp; done) | (simp; omega)) (by first | (simp; done) | (simp; omega))) ?_)), ?_⟩ | refine .inl ⟨_, _, rfl, Sat.of_eq (Sat.sub (xs := roofsC rs) (off := Int.toNat 0 * 67) (n := 67) (l01Cells_sat (rx rs 0) (hR 0 h0) hb0') (roofs_sub (i := 0) (by simp) h0) (roofC_len _) (by omega)) (by repeat (first | rfl | exact vfull (by first | (simp [splice]; done) | (simp [splice]; omega)) | exact rfull (by first | (simp [splice]; done) | (simp [splice]; omega)) | exact vzeroR | exact vroofs (by simp; done) (by omega) | exact vcell rfl (by simp) hc17 | exact vcellR rfl (by simp) hc17 | exact vcellS (by simp) (by simp) hc17 | exact vsplice (by simp) (by simp) | refine ceq ?_ ?_ | refine Eq.trans (vsplice (by first | (simp; done) | (simp; omega)) (by first | (simp; done) | (simp; omega))) ?_)), ?_⟩
  conv => whnf
  repeat (first | (refine And.intro (by first | exact Nat.le_of_ble_eq_true rfl | exact rfl | decide | omega | (simp [splice]; done) | (constructor <;> omega) | (simp [splice]; omega)) ?_; conv => whnf) | (refine optK_of (intA (by omega)) ?_; conv => whnf) | (refine optK_of (intA' (by omega)) ?_; conv => whnf))
  cases h3 : decide ((c : Int) < 2 * (rx rs 0).w + 1)
  · have hcn : c = (2 * (rx rs 0).w + 1).toNat := by simp at h3; omega
    subst hcn
    conv => whnf
    repeat (first | (refine And.intro (by first | exact Nat.le_of_ble_eq_true rfl | exact rfl | decide | omega | (simp [splice]; done) | (constructor <;> omega) | (simp [splice]; omega)) ?_; conv => whnf) | (refine optK_of (intA (by omega)) ?_; conv => whnf) | (refine optK_of (intA' (by omega)) ?_; conv => whnf))
    first | refine ⟨rfl, _, rfl, ?_⟩ | refine ⟨_, rfl, ?_⟩
    rfl
  have hcn : (c : Int) < 2 * (rx rs 0).w + 1 := by simpa using h3
  have hc17 : c < 17 := by omega
  conv => whnf
  repeat (first | (refine And.intro (by first | exact Nat.le_of_ble_eq_true rfl | exact rfl | decide | omega | (simp [splice]; done) | (constructor <;> omega) | (simp [splice]; omega)) ?_; conv => whnf) | (refine optK_of (intA (by omega)) ?_; conv => whnf) | (refine optK_of (intA' (by omega)) ?_; conv => whnf))
  rw [show IntKind.i16.wrap a = a from w16 (by omega) (by omega)]
  first | refine ⟨_, _, rfl, Sat.of_eq (l03Groups_sat rs h6 hR hb (wC c a) (fun _ => wC_in (by omega) c) false) (by repeat (first | rfl | exact vfull (by first | (simp [splice]; done) | (simp [splice]; omega)) | exact rfull (by first | (simp [splice]; done) | (simp [splice]; omega)) | exact vzeroR | exact vroofs (by simp; done) (by omega) | exact vcell rfl (by simp) hc17 | exact vcellR rfl (by simp) hc17 | exact vcellS (by simp) (by simp) hc17 | exact vsplice (by simp) (by simp) | refine ceq ?_ ?_ | refine Eq.trans (vsplice (by first | (simp; done) | (simp; omega)) (by first | (simp; done) | (simp; omega))) ?_)), ?_⟩ | refine .inl ⟨_, _, rfl, Sat.of_eq (l03Groups_sat rs h6 hR hb (wC c a) (fun _ => wC_in (by omega) c) false) (by repeat (first | rfl | exact vfull (by first | (simp [splice]; done) | (simp [splice]; omega)) | exact rfull (by first | (simp [splice]; done) | (simp [splice]; omega)) | exact vzeroR | exact vroofs (by simp; done) (by omega) | exact vcell rfl (by simp) hc17 | exact vcellR rfl (by simp) hc17 | exact vcellS (by simp) (by simp) hc17 | exact vsplice (by simp) (by simp) | refine ceq ?_ ?_ | refine Eq.trans (vsplice (by first | (simp; done) | (simp; omega)) (by first | (simp; done) | (simp; omega))) ?_)), ?_⟩
  conv => whnf
  repeat (first | (refine And.intro (by first | exact Nat.le_of_ble_eq_true rfl | exact rfl | decide | omega | (simp [splice]; done) | (constructor <;> omega) | (simp [splice]; omega)) ?_; conv => whnf) | (refine optK_of (intA (by omega)) ?_; conv => whnf) | (refine optK_of (intA' (by omega)) ?_; conv => whnf))
  cases h4 : decide (((snL (Fr rs (wC c a)) rs.length).length : Int) > (bcF rs a c).2)
  · have h4' : ¬ bcN rs a c > (bcF rs a c).2 := by unfold bcN; simpa using h4
    rw [← bcF_two h4']
    conv => whnf
    repeat (first | (refine And.intro (by first | exact Nat.le_of_ble_eq_true rfl | exact rfl | decide | omega | (simp [splice]; done) | (constructor <;> omega) | (simp [splice]; omega)) ?_; conv => whnf) | (refine optK_of (intA (by omega)) ?_; conv => whnf) | (refine optK_of (intA' (by omega)) ?_; conv => whnf))
    refine ⟨c + 1, ?_, ?_, sim_of (rn := []) rfl ?_ ?_⟩
    · (dsimp only; omega)
    · first | omega | (dsimp only; omega) | ((repeat' apply And.intro) <;> omega) | (dsimp only; (repeat' apply And.intro) <;> omega) | trivial
    · ((repeat' (first | exact trivial | apply And.intro)) <;> (first | rfl | exact succ8 (by omega) | exact succ64 (by omega) | exact CapOk.fn (by assumption) _ _ | exact vintS (by omega) | exact vintS (by rw [w64 (by omega) (by omega)]; omega) | exact vintS (by rw [w8 (by omega) (by omega)]; omega) | exact vslcS (by omega) | exact vslcS (by simp)))
    · ((repeat' (first | exact trivial | apply And.intro)) <;> ((first | refine ⟨_, _, rfl, rfl, ?_⟩ ); rfl))
  have h4' : bcN rs a c > (bcF rs a c).2 := by unfold bcN; simpa using h4
  conv => whnf
  repeat (first | (refine And.intro (by first | exact Nat.le_of_ble_eq_true rfl | exact rfl | decide | omega | (simp [splice]; done) | (constructor <;> omega) | (simp [splice]; omega)) ?_; conv => whnf) | (refine optK_of (intA (by omega)) ?_; conv => whnf) | (refine optK_of (intA' (by omega)) ?_; conv => whnf))
  refine ⟨c + 1, ?_, ?_, sim_of (rn := []) rfl ?_ ?_⟩
  · (dsimp only; omega)
  · first | omega | (dsimp only; omega) | ((repeat' apply And.intro) <;> omega) | (dsimp only; (repeat' apply And.intro) <;> omega) | trivial
  · ((repeat' (first | exact trivial | apply And.intro)) <;> (first | rfl | ((rw [bcF_one h4']; rfl)) | exact succ8 (by omega) | exact succ64 (by omega) | exact CapOk.fn (by assumption) _ _ | exact vintS (by omega) | exact vintS (by rw [w64 (by omega) (by omega)]; omega) | exact vintS (by rw [w8 (by omega) (by omega)]; omega) | exact vslcS (by omega) | exact vslcS (by simp)))
  · ((repeat' (first | exact trivial | apply And.intro)) <;> ((first | refine ⟨_, _, rfl, rfl, ?_⟩ ); rfl))
theorem bestCell_sat (rs : List Roof) (hl : rs.length ≤ 1048576) (hR : AllR rs) (a : Int) (m : Bool) : Sat Try.prog 35 [roofsD m rs, .v (.int .i64 a)] (bclV rs a) := by
  have hcs := csK_dry rs (bcAm a)
  refine sat_of_wp hMix tOk Try.func35 rfl rfl Try.ntmps35 rfl rfl Try.results35 (by kernel_rfl) ?_
  conv => whnf
  repeat (first | (refine And.intro (by first | exact Nat.le_of_ble_eq_true rfl | exact rfl | decide | omega | (simp [splice]; done) | (constructor <;> omega) | (simp [splice]; omega)) ?_; conv => whnf) | (refine optK_of (intA (by omega)) ?_; conv => whnf) | (refine optK_of (intA' (by omega)) ?_; conv => whnf))
  first | refine ⟨_, _, rfl, Sat.of_eq (areAllRN_sat (g := 92) (p := okR) rs hl false fun i hi => validRoof_sat (rx rs i) (hR i hi)) (by repeat (first | rfl | exact vfull (by first | (simp [splice]; done) | (simp [splice]; omega)) | exact rfull (by first | (simp [splice]; done) | (simp [splice]; omega)) | exact vzeroR | exact vroofs (by simp; done) (by omega) | exact vcell rfl (by simp) hc17 | exact vcellR rfl (by simp) hc17 | exact vcellS (by simp) (by simp) hc17 | exact vsplice (by simp) (by simp) | refine ceq ?_ ?_ | refine Eq.trans (vsplice (by first | (simp; done) | (simp; omega)) (by first | (simp; done) | (simp; omega))) ?_)), ?_⟩ | refine .inl ⟨_, _, rfl, Sat.of_eq (areAllRN_sat (g := 92) (p := okR) rs hl false fun i hi => validRoof_sat (rx rs i) (hR i hi)) (by repeat (first | rfl | exact vfull (by first | (simp [splice]; done) | (simp [splice]; omega)) | exact rfull (by first | (simp [splice]; done) | (simp [splice]; omega)) | exact vzeroR | exact vroofs (by simp; done) (by omega) | exact vcell rfl (by simp) hc17 | exact vcellR rfl (by simp) hc17 | exact vcellS (by simp) (by simp) hc17 | exact vsplice (by simp) (by simp) | refine ceq ?_ ?_ | refine Eq.trans (vsplice (by first | (simp; done) | (simp; omega)) (by first | (simp; done) | (simp; omega))) ?_)), ?_⟩
  conv => whnf
  repeat (first | (refine And.intro (by first | exact Nat.le_of_ble_eq_true rfl | exact rfl | decide | omega | (simp [splice]; done) | (constructor <;> omega) | (simp [splice]; omega)) ?_; conv => whnf) | (refine optK_of (intA (by omega)) ?_; conv => whnf) | (refine optK_of (intA' (by omega)) ?_; conv => whnf))
  cases ha : rs.all okR
  · have hk : csK rs (fun _ => 0) (bcAm a) = 1 := by rw [hcs, ha]; rfl
    rw [bclV_err (k := 1) (by unfold bclK; rw [hk]; rfl) (by omega)]
    conv => whnf
    repeat (first | (refine And.intro (by first | exact Nat.le_of_ble_eq_true rfl | exact rfl | decide | omega | (simp [splice]; done) | (constructor <;> omega) | (simp [splice]; omega)) ?_; conv => whnf) | (refine optK_of (intA (by omega)) ?_; conv => whnf) | (refine optK_of (intA' (by omega)) ?_; conv => whnf))
    first | refine ⟨rfl, _, rfl, ?_⟩ | refine ⟨_, rfl, ?_⟩
    rfl
  rw [ha] at hcs
  conv => whnf
  repeat (first | (refine And.intro (by first | exact Nat.le_of_ble_eq_true rfl | exact rfl | decide | omega | (simp [splice]; done) | (constructor <;> omega) | (simp [splice]; omega)) ?_; conv => whnf) | (refine optK_of (intA (by omega)) ?_; conv => whnf) | (refine optK_of (intA' (by omega)) ?_; conv => whnf))
  first | refine ⟨_, _, rfl, Sat.of_eq (within64_sat a 1 1000) (by repeat (first | rfl | exact vfull (by first | (simp [splice]; done) | (simp [splice]; omega)) | exact rfull (by first | (simp [splice]; done) | (simp [splice]; omega)) | exact vzeroR | exact vroofs (by simp; done) (by omega) | exact vcell rfl (by simp) hc17 | exact vcellR rfl (by simp) hc17 | exact vcellS (by simp) (by simp) hc17 | exact vsplice (by simp) (by simp) | refine ceq ?_ ?_ | refine Eq.trans (vsplice (by first | (simp; done) | (simp; omega)) (by first | (simp; done) | (simp; omega))) ?_)), ?_⟩ | refine .inl ⟨_, _, rfl, Sat.of_eq (within64_sat a 1 1000) (by repeat (first | rfl | exact vfull (by first | (simp [splice]; done) | (simp [splice]; omega)) | exact rfull (by first | (simp [splice]; done) | (simp [splice]; omega)) | exact vzeroR | exact vroofs (by simp; done) (by omega) | exact vcell rfl (by simp) hc17 | exact vcellR rfl (by simp) hc17 | exact vcellS (by simp) (by simp) hc17 | exact vsplice (by simp) (by simp) | refine ceq ?_ ?_ | refine Eq.trans (vsplice (by first | (simp; done) | (simp; omega)) (by first | (simp; done) | (simp; omega))) ?_)), ?_⟩
  conv => whnf
  repeat (first | (refine And.intro (by first | exact Nat.le_of_ble_eq_true rfl | exact rfl | decide | omega | (simp [splice]; done) | (constructor <;> omega) | (simp [splice]; omega)) ?_; conv => whnf) | (refine optK_of (intA (by omega)) ?_; conv => whnf) | (refine optK_of (intA' (by omega)) ?_; conv => whnf))
  rw [show (decide (1 ≤ a) && decide (a ≤ 1000)) = bcAm a from rfl]
  cases hb0 : bcAm a
  · have hk : csK rs (fun _ => 0) (bcAm a) = 2 := by rw [hcs, hb0]; rfl
    rw [bclV_err (k := 2) (by unfold bclK; rw [hk]; rfl) (by omega)]
    conv => whnf
    repeat (first | (refine And.intro (by first | exact Nat.le_of_ble_eq_true rfl | exact rfl | decide | omega | (simp [splice]; done) | (constructor <;> omega) | (simp [splice]; omega)) ?_; conv => whnf) | (refine optK_of (intA (by omega)) ?_; conv => whnf) | (refine optK_of (intA' (by omega)) ?_; conv => whnf))
    first | refine ⟨rfl, _, rfl, ?_⟩ | refine ⟨_, rfl, ?_⟩
    rfl
  have hk : csK rs (fun _ => 0) (bcAm a) = casI rs := by rw [hcs, hb0]; rfl
  have ham : 1 ≤ a ∧ a ≤ 1000 := by unfold bcAm at hb0; simpa using hb0
  conv => whnf
  repeat (first | (refine And.intro (by first | exact Nat.le_of_ble_eq_true rfl | exact rfl | decide | omega | (simp [splice]; done) | (constructor <;> omega) | (simp [splice]; omega)) ?_; conv => whnf) | (refine optK_of (intA (by omega)) ?_; conv => whnf) | (refine optK_of (intA' (by omega)) ?_; conv => whnf))
  first | refine ⟨_, _, rfl, Sat.of_eq (casesCode_sat rs hl false) (by repeat (first | rfl | exact vfull (by first | (simp [splice]; done) | (simp [splice]; omega)) | exact rfull (by first | (simp [splice]; done) | (simp [splice]; omega)) | exact vzeroR | exact vroofs (by simp; done) (by omega) | exact vcell rfl (by simp) hc17 | exact vcellR rfl (by simp) hc17 | exact vcellS (by simp) (by simp) hc17 | exact vsplice (by simp) (by simp) | refine ceq ?_ ?_ | refine Eq.trans (vsplice (by first | (simp; done) | (simp; omega)) (by first | (simp; done) | (simp; omega))) ?_)), ?_⟩ | refine .inl ⟨_, _, rfl, Sat.of_eq (casesCode_sat rs hl false) (by repeat (first | rfl | exact vfull (by first | (simp [splice]; done) | (simp [splice]; omega)) | exact rfull (by first | (simp [splice]; done) | (simp [splice]; omega)) | exact vzeroR | exact vroofs (by simp; done) (by omega) | exact vcell rfl (by simp) hc17 | exact vcellR rfl (by simp) hc17 | exact vcellS (by simp) (by simp) hc17 | exact vsplice (by simp) (by simp) | refine ceq ?_ ?_ | refine Eq.trans (vsplice (by first | (simp; done) | (simp; omega)) (by first | (simp; done) | (simp; omega))) ?_)), ?_⟩
  conv => whnf
  repeat (first | (refine And.intro (by first | exact Nat.le_of_ble_eq_true rfl | exact rfl | decide | omega | (simp [splice]; done) | (constructor <;> omega) | (simp [splice]; omega)) ?_; conv => whnf) | (refine optK_of (intA (by omega)) ?_; conv => whnf) | (refine optK_of (intA' (by omega)) ?_; conv => whnf))
  cases h1 : (casI rs != 0)
  case true =>
    have h1' : ¬ casI rs = 0 := by simpa using h1
    rw [bclV_err (k := casI rs) (by unfold bclK; rw [hk, if_neg h1']) h1']
    conv => whnf
    repeat (first | (refine And.intro (by first | exact Nat.le_of_ble_eq_true rfl | exact rfl | decide | omega | (simp [splice]; done) | (constructor <;> omega) | (simp [splice]; omega)) ?_; conv => whnf) | (refine optK_of (intA (by omega)) ?_; conv => whnf) | (refine optK_of (intA' (by omega)) ?_; conv => whnf))
    first | refine ⟨rfl, _, rfl, ?_⟩ | refine ⟨_, rfl, ?_⟩
    rfl
  have hz : casI rs = 0 := by simpa using h1
  obtain ⟨ha', _, h6, _⟩ := csK_zero (hk.trans hz)
  conv => whnf
  repeat (first | (refine And.intro (by first | exact Nat.le_of_ble_eq_true rfl | exact rfl | decide | omega | (simp [splice]; done) | (constructor <;> omega) | (simp [splice]; omega)) ?_; conv => whnf) | (refine optK_of (intA (by omega)) ?_; conv => whnf) | (refine optK_of (intA' (by omega)) ?_; conv => whnf))
  cases h2 : ((rs.length : Int) == 0)
  case true =>
    have h0 : rs.length = 0 := by have : (rs.length : Int) = 0 := by simpa using h2
                                  omega
    rw [bclV_err (k := 6) (by unfold bclK; rw [if_pos (hk.trans hz), if_pos h0]) (by omega)]
    conv => whnf
    repeat (first | (refine And.intro (by first | exact Nat.le_of_ble_eq_true rfl | exact rfl | decide | omega | (simp [splice]; done) | (constructor <;> omega) | (simp [splice]; omega)) ?_; conv => whnf) | (refine optK_of (intA (by omega)) ?_; conv => whnf) | (refine optK_of (intA' (by omega)) ?_; conv => whnf))
    first | refine ⟨rfl, _, rfl, ?_⟩ | refine ⟨_, rfl, ?_⟩
    rfl
  have h0 : 0 < rs.length := by have : ¬ (rs.length : Int) = 0 := by simpa using h2
                                omega
  rw [bclV_ok (by unfold bclK; rw [if_pos (hk.trans hz), if_neg (by omega)])]
  have hb := csK_Rb ha'
  have hb0' := hb 0 h0
  have hm : 1 * 67 ≤ rs.length * 67 := Nat.mul_le_mul_right _ h0
  conv => whnf
  repeat (first | (refine And.intro (by first | exact Nat.le_of_ble_eq_true rfl | exact rfl | decide | omega | (simp [splice]; done) | (constructor <;> omega) | (simp [splice]; omega)) ?_; conv => whnf) | (refine optK_of (intA (by omega)) ?_; conv => whnf) | (refine optK_of (intA' (by omega)) ?_; conv => whnf))
  have e0 : D.v (.agg ⟨((roofsC rs).drop (Int.toNat 0 * 67)).take 67⟩) = roofD (rx rs 0) := vroofs (i := 0) (by simp) h0
  first | refine ⟨_, _, rfl, Sat.of_eq ((e0 ▸ cells_sat (rx rs 0) (hR 0 h0) hb0' : Sat Try.prog 95 [D.v (.agg ⟨((roofsC rs).drop (Int.toNat 0 * 67)).take 67⟩)] _)) (by repeat (first | rfl | exact vfull (by first | (simp [splice]; done) | (simp [splice]; omega)) | exact rfull (by first | (simp [splice]; done) | (simp [splice]; omega)) | exact vzeroR | exact vroofs (by simp; done) (by omega) | exact vcell rfl (by simp) hc17 | exact vcellR rfl (by simp) hc17 | exact vcellS (by simp) (by simp) hc17 | exact vsplice (by simp) (by simp) | refine ceq ?_ ?_ | refine Eq.trans (vsplice (by first | (simp; done) | (simp; omega)) (by first | (simp; done) | (simp; omega))) ?_)), ?_⟩ | refine .inl ⟨_, _, rfl, Sat.of_eq ((e0 ▸ cells_sat (rx rs 0) (hR 0 h0) hb0' : Sat Try.prog 95 [D.v (.agg ⟨((roofsC rs).drop (Int.toNat 0 * 67)).take 67⟩)] _)) (by repeat (first | rfl | exact vfull (by first | (simp [splice]; done) | (simp [splice]; omega)) | exact rfull (by first | (simp [splice]; done) | (simp [splice]; omega)) | exact vzeroR | exact vroofs (by simp; done) (by omega) | exact vcell rfl (by simp) hc17 | exact vcellR rfl (by simp) hc17 | exact vcellS (by simp) (by simp) hc17 | exact vsplice (by simp) (by simp) | refine ceq ?_ ?_ | refine Eq.trans (vsplice (by first | (simp; done) | (simp; omega)) (by first | (simp; done) | (simp; omega))) ?_)), ?_⟩
  conv => whnf
  repeat (first | (refine And.intro (by first | exact Nat.le_of_ble_eq_true rfl | exact rfl | decide | omega | (simp [splice]; done) | (constructor <;> omega) | (simp [splice]; omega)) ?_; conv => whnf) | (refine optK_of (intA (by omega)) ?_; conv => whnf) | (refine optK_of (intA' (by omega)) ?_; conv => whnf))
  refine loop_rule (α := Nat) (fun c => [(0, roofsD m rs), (1, .v (.int .i64 a)), (8, .v (.int .i64 (bcF rs a c).1)), (9, .v (.int .i64 (bcF rs a c).2)), (32, .v (.int .i64 (2 * (rx rs 0).w + 1))), (33, .v (.int .i64 c))]) (fun c => []) (fun c => c ≤ (2 * (rx rs 0).w + 1).toNat) (fun c => (2 * (rx rs 0).w + 1).toNat - c) (0) ?_ (sim_of (rn := []) rfl ?_ ?_) ?_
  · first | omega | (dsimp only; omega) | ((repeat' apply And.intro) <;> omega) | (dsimp only; (repeat' apply And.intro) <;> omega) | trivial
  · ((repeat' (first | exact trivial | apply And.intro)) <;> (first | rfl | exact succ8 (by omega) | exact succ64 (by omega) | exact CapOk.fn (by assumption) _ _ | exact vintS (by omega) | exact vintS (by rw [w64 (by omega) (by omega)]; omega) | exact vintS (by rw [w8 (by omega) (by omega)]; omega) | exact vslcS (by omega) | exact vslcS (by simp)))
  · ((repeat' (first | exact trivial | apply And.intro)) <;> ((first | refine ⟨_, _, rfl, rfl, ?_⟩ ); rfl))
  intro c hc
  conv => whnf
  repeat (first | (refine And.intro (by first | exact Nat.le_of_ble_eq_true rfl | exact rfl | decide | omega | (simp [splice]; done) | (constructor <;> omega) | (simp [splice]; omega)) ?_; conv => whnf) | (refine optK_of (intA (by omega)) ?_; conv => whnf) | (refine optK_of (intA' (by omega)) ?_; conv => whnf))
  cases h3 : decide ((c : Int) < 2 * (rx rs 0).w + 1)
  · have hcn : c = (2 * (rx rs 0).w + 1).toNat := by simp at h3; omega
    subst hcn
    conv => whnf
    repeat (first | (refine And.intro (by first | exact Nat.le_of_ble_eq_true rfl | exact rfl | decide | omega | (simp [splice]; done) | (constructor <;> omega) | (simp [splice]; omega)) ?_; conv => whnf) | (refine optK_of (intA (by omega)) ?_; conv => whnf) | (refine optK_of (intA' (by omega)) ?_; conv => whnf))
    first | refine ⟨rfl, _, rfl, ?_⟩ | refine ⟨_, rfl, ?_⟩
    rfl
  have hcn : (c : Int) < 2 * (rx rs 0).w + 1 := by simpa using h3
  have hc17 : c < 17 := by omega
  have hbn := bcN_in rs a c
  conv => whnf
  repeat (first | (refine And.intro (by first | exact Nat.le_of_ble_eq_true rfl | exact rfl | decide | omega | (simp [splice]; done) | (constructor <;> omega) | (simp [splice]; omega)) ?_; conv => whnf) | (refine optK_of (intA (by omega)) ?_; conv => whnf) | (refine optK_of (intA' (by omega)) ?_; conv => whnf))
  rw [show IntKind.i16.wrap a = a from w16 (by omega) (by omega)]
  first | refine ⟨_, _, rfl, Sat.of_eq (groups_sat rs h6 hR hb (wC c a) (fun _ => wC_in (by omega) c)) (by repeat (first | rfl | exact vfull (by first | (simp [splice]; done) | (simp [splice]; omega)) | exact rfull (by first | (simp [splice]; done) | (simp [splice]; omega)) | exact vzeroR | exact vroofs (by simp; done) (by omega) | exact vcell rfl (by simp) hc17 | exact vcellR rfl (by simp) hc17 | exact vcellS (by simp) (by simp) hc17 | exact vsplice (by simp) (by simp) | refine ceq ?_ ?_ | refine Eq.trans (vsplice (by first | (simp; done) | (simp; omega)) (by first | (simp; done) | (simp; omega))) ?_)), ?_⟩ | refine .inl ⟨_, _, rfl, Sat.of_eq (groups_sat rs h6 hR hb (wC c a) (fun _ => wC_in (by omega) c)) (by repeat (first | rfl | exact vfull (by first | (simp [splice]; done) | (simp [splice]; omega)) | exact rfull (by first | (simp [splice]; done) | (simp [splice]; omega)) | exact vzeroR | exact vroofs (by simp; done) (by omega) | exact vcell rfl (by simp) hc17 | exact vcellR rfl (by simp) hc17 | exact vcellS (by simp) (by simp) hc17 | exact vsplice (by simp) (by simp) | refine ceq ?_ ?_ | refine Eq.trans (vsplice (by first | (simp; done) | (simp; omega)) (by first | (simp; done) | (simp; omega))) ?_)), ?_⟩
  conv => whnf
  repeat (first | (refine And.intro (by first | exact Nat.le_of_ble_eq_true rfl | exact rfl | decide | omega | (simp [splice]; done) | (constructor <;> omega) | (simp [splice]; omega)) ?_; conv => whnf) | (refine optK_of (intA (by omega)) ?_; conv => whnf) | (refine optK_of (intA' (by omega)) ?_; conv => whnf))
  have hgl := goL_len (Fr rs (wC c a)) rs.length
  first | refine ⟨_, _, rfl, Sat.of_eq (maxI_sat (goL (Fr rs (wC c a)) rs.length) (by omega) (by omega) false) (by repeat (first | rfl | exact vfull (by first | (simp [splice]; done) | (simp [splice]; omega)) | exact rfull (by first | (simp [splice]; done) | (simp [splice]; omega)) | exact vzeroR | exact vroofs (by simp; done) (by omega) | exact vcell rfl (by simp) hc17 | exact vcellR rfl (by simp) hc17 | exact vcellS (by simp) (by simp) hc17 | exact vsplice (by simp) (by simp) | refine ceq ?_ ?_ | refine Eq.trans (vsplice (by first | (simp; done) | (simp; omega)) (by first | (simp; done) | (simp; omega))) ?_)), ?_⟩ | refine .inl ⟨_, _, rfl, Sat.of_eq (maxI_sat (goL (Fr rs (wC c a)) rs.length) (by omega) (by omega) false) (by repeat (first | rfl | exact vfull (by first | (simp [splice]; done) | (simp [splice]; omega)) | exact rfull (by first | (simp [splice]; done) | (simp [splice]; omega)) | exact vzeroR | exact vroofs (by simp; done) (by omega) | exact vcell rfl (by simp) hc17 | exact vcellR rfl (by simp) hc17 | exact vcellS (by simp) (by simp) hc17 | exact vsplice (by simp) (by simp) | refine ceq ?_ ?_ | refine Eq.trans (vsplice (by first | (simp; done) | (simp; omega)) (by first | (simp; done) | (simp; omega))) ?_)), ?_⟩
  conv => whnf
  repeat (first | (refine And.intro (by first | exact Nat.le_of_ble_eq_true rfl | exact rfl | decide | omega | (simp [splice]; done) | (constructor <;> omega) | (simp [splice]; omega)) ?_; conv => whnf) | (refine optK_of (intA (by omega)) ?_; conv => whnf) | (refine optK_of (intA' (by omega)) ?_; conv => whnf))
  have em : IntKind.i64.wrap (mxL (ix (goL (Fr rs (wC c a)) rs.length)) ((goL (Fr rs (wC c a)) rs.length).length - 1) + 1) = bcN rs a c := by
    rw [hgl, mxL_go _ _ _ (by omega), show rs.length - 1 + 1 = rs.length by omega]
    show IntKind.i64.wrap (bcN rs a c - 1 + 1) = bcN rs a c
    rw [w64 (n := bcN rs a c - 1 + 1) (by omega) (by omega)]; omega
  rw [em]
  cases h4 : decide (bcN rs a c > (bcF rs a c).2)
  · have h4' : ¬ bcN rs a c > (bcF rs a c).2 := by simpa using h4
    rw [← bcF_two h4']
    conv => whnf
    repeat (first | (refine And.intro (by first | exact Nat.le_of_ble_eq_true rfl | exact rfl | decide | omega | (simp [splice]; done) | (constructor <;> omega) | (simp [splice]; omega)) ?_; conv => whnf) | (refine optK_of (intA (by omega)) ?_; conv => whnf) | (refine optK_of (intA' (by omega)) ?_; conv => whnf))
    refine ⟨c + 1, ?_, ?_, sim_of (rn := []) rfl ?_ ?_⟩
    · (dsimp only; omega)
    · first | omega | (dsimp only; omega) | ((repeat' apply And.intro) <;> omega) | (dsimp only; (repeat' apply And.intro) <;> omega) | trivial
    · ((repeat' (first | exact trivial | apply And.intro)) <;> (first | rfl | exact succ8 (by omega) | exact succ64 (by omega) | exact CapOk.fn (by assumption) _ _ | exact vintS (by omega) | exact vintS (by rw [w64 (by omega) (by omega)]; omega) | exact vintS (by rw [w8 (by omega) (by omega)]; omega) | exact vslcS (by omega) | exact vslcS (by simp)))
    · ((repeat' (first | exact trivial | apply And.intro)) <;> ((first | refine ⟨_, _, rfl, rfl, ?_⟩ ); rfl))
  have h4' : bcN rs a c > (bcF rs a c).2 := by simpa using h4
  conv => whnf
  repeat (first | (refine And.intro (by first | exact Nat.le_of_ble_eq_true rfl | exact rfl | decide | omega | (simp [splice]; done) | (constructor <;> omega) | (simp [splice]; omega)) ?_; conv => whnf) | (refine optK_of (intA (by omega)) ?_; conv => whnf) | (refine optK_of (intA' (by omega)) ?_; conv => whnf))
  refine ⟨c + 1, ?_, ?_, sim_of (rn := []) rfl ?_ ?_⟩
  · (dsimp only; omega)
  · first | omega | (dsimp only; omega) | ((repeat' apply And.intro) <;> omega) | (dsimp only; (repeat' apply And.intro) <;> omega) | trivial
  · ((repeat' (first | exact trivial | apply And.intro)) <;> (first | rfl | ((rw [bcF_one h4']; rfl)) | exact succ8 (by omega) | exact succ64 (by omega) | exact CapOk.fn (by assumption) _ _ | exact vintS (by omega) | exact vintS (by rw [w64 (by omega) (by omega)]; omega) | exact vintS (by rw [w8 (by omega) (by omega)]; omega) | exact vslcS (by omega) | exact vslcS (by simp)))
  · ((repeat' (first | exact trivial | apply And.intro)) <;> ((first | refine ⟨_, _, rfl, rfl, ?_⟩ ); rfl))
theorem fnExactBestCell_sat (rs : List Roof) (hR : AllR rs) (hlen : rs.length ≤ 9223372036854775807) (a : Int) (ha : I64 a) : Sat Try.prog 6 [roofsD false rs, .v (.int .i64 a)] (.v (.bool true)) := by
  refine sat_of_wp hMix tOk Try.func6 rfl rfl Try.ntmps6 rfl rfl Try.results6 (by kernel_rfl) ?_
  conv => whnf
  repeat (first | (refine And.intro (by first | exact Nat.le_of_ble_eq_true rfl | exact rfl | decide | omega | (simp [splice]; done) | (constructor <;> omega) | (simp [splice]; omega)) ?_; conv => whnf) | (refine optK_of (intA (by omega)) ?_; conv => whnf) | (refine optK_of (intA' (by omega)) ?_; conv => whnf))
  first | refine ⟨_, _, rfl, Sat.of_eq (szRoofS_sat rs hlen 1048576 (by omega) false) (by repeat (first | rfl | exact vfull (by first | (simp [splice]; done) | (simp [splice]; omega)) | exact rfull (by first | (simp [splice]; done) | (simp [splice]; omega)) | exact vzeroR | exact vroofs (by simp; done) (by omega) | exact vcell rfl (by simp) hc17 | exact vcellR rfl (by simp) hc17 | exact vcellS (by simp) (by simp) hc17 | exact vsplice (by simp) (by simp) | refine ceq ?_ ?_ | refine Eq.trans (vsplice (by first | (simp; done) | (simp; omega)) (by first | (simp; done) | (simp; omega))) ?_)), ?_⟩ | refine .inl ⟨_, _, rfl, Sat.of_eq (szRoofS_sat rs hlen 1048576 (by omega) false) (by repeat (first | rfl | exact vfull (by first | (simp [splice]; done) | (simp [splice]; omega)) | exact rfull (by first | (simp [splice]; done) | (simp [splice]; omega)) | exact vzeroR | exact vroofs (by simp; done) (by omega) | exact vcell rfl (by simp) hc17 | exact vcellR rfl (by simp) hc17 | exact vcellS (by simp) (by simp) hc17 | exact vsplice (by simp) (by simp) | refine ceq ?_ ?_ | refine Eq.trans (vsplice (by first | (simp; done) | (simp; omega)) (by first | (simp; done) | (simp; omega))) ?_)), ?_⟩
  conv => whnf
  repeat (first | (refine And.intro (by first | exact Nat.le_of_ble_eq_true rfl | exact rfl | decide | omega | (simp [splice]; done) | (constructor <;> omega) | (simp [splice]; omega)) ?_; conv => whnf) | (refine optK_of (intA (by omega)) ?_; conv => whnf) | (refine optK_of (intA' (by omega)) ?_; conv => whnf))
  by_cases hbig : (1048576 : Int) - rs.length < 0
  · rw [if_pos hbig]
    conv => whnf
    repeat (first | (refine And.intro (by first | exact Nat.le_of_ble_eq_true rfl | exact rfl | decide | omega | (simp [splice]; done) | (constructor <;> omega) | (simp [splice]; omega)) ?_; conv => whnf) | (refine optK_of (intA (by omega)) ?_; conv => whnf) | (refine optK_of (intA' (by omega)) ?_; conv => whnf))
    first | refine ⟨rfl, _, rfl, ?_⟩ | refine ⟨_, rfl, ?_⟩
    rfl
  rw [if_neg hbig]
  rw [show decide ((1048576 : Int) - rs.length < 0) = false by simpa using hbig]
  have hl : rs.length ≤ 1048576 := by omega
  have s1 := specBestCell_sat rs hl hR a false
  have s2 := bestCell_sat rs hl hR a false
  unfold bclV at s1 s2
  generalize bclB rs a = x at s1 s2
  generalize bclK rs a = y at s1 s2
  conv => whnf
  repeat (first | (refine And.intro (by first | exact Nat.le_of_ble_eq_true rfl | exact rfl | decide | omega | (simp [splice]; done) | (constructor <;> omega) | (simp [splice]; omega)) ?_; conv => whnf) | (refine optK_of (intA (by omega)) ?_; conv => whnf) | (refine optK_of (intA' (by omega)) ?_; conv => whnf))
  first | refine ⟨_, _, rfl, Sat.of_eq (toRoofS_sat rs hl false) (by repeat (first | rfl | exact vfull (by first | (simp [splice]; done) | (simp [splice]; omega)) | exact rfull (by first | (simp [splice]; done) | (simp [splice]; omega)) | exact vzeroR | exact vroofs (by simp; done) (by omega) | exact vcell rfl (by simp) hc17 | exact vcellR rfl (by simp) hc17 | exact vcellS (by simp) (by simp) hc17 | exact vsplice (by simp) (by simp) | refine ceq ?_ ?_ | refine Eq.trans (vsplice (by first | (simp; done) | (simp; omega)) (by first | (simp; done) | (simp; omega))) ?_)), ?_⟩ | refine .inl ⟨_, _, rfl, Sat.of_eq (toRoofS_sat rs hl false) (by repeat (first | rfl | exact vfull (by first | (simp [splice]; done) | (simp [splice]; omega)) | exact rfull (by first | (simp [splice]; done) | (simp [splice]; omega)) | exact vzeroR | exact vroofs (by simp; done) (by omega) | exact vcell rfl (by simp) hc17 | exact vcellR rfl (by simp) hc17 | exact vcellS (by simp) (by simp) hc17 | exact vsplice (by simp) (by simp) | refine ceq ?_ ?_ | refine Eq.trans (vsplice (by first | (simp; done) | (simp; omega)) (by first | (simp; done) | (simp; omega))) ?_)), ?_⟩
  conv => whnf
  repeat (first | (refine And.intro (by first | exact Nat.le_of_ble_eq_true rfl | exact rfl | decide | omega | (simp [splice]; done) | (constructor <;> omega) | (simp [splice]; omega)) ?_; conv => whnf) | (refine optK_of (intA (by omega)) ?_; conv => whnf) | (refine optK_of (intA' (by omega)) ?_; conv => whnf))
  first | refine ⟨_, _, rfl, Sat.of_eq (s1) (by repeat (first | rfl | exact vfull (by first | (simp [splice]; done) | (simp [splice]; omega)) | exact rfull (by first | (simp [splice]; done) | (simp [splice]; omega)) | exact vzeroR | exact vroofs (by simp; done) (by omega) | exact vcell rfl (by simp) hc17 | exact vcellR rfl (by simp) hc17 | exact vcellS (by simp) (by simp) hc17 | exact vsplice (by simp) (by simp) | refine ceq ?_ ?_ | refine Eq.trans (vsplice (by first | (simp; done) | (simp; omega)) (by first | (simp; done) | (simp; omega))) ?_)), ?_⟩ | refine .inl ⟨_, _, rfl, Sat.of_eq (s1) (by repeat (first | rfl | exact vfull (by first | (simp [splice]; done) | (simp [splice]; omega)) | exact rfull (by first | (simp [splice]; done) | (simp [splice]; omega)) | exact vzeroR | exact vroofs (by simp; done) (by omega) | exact vcell rfl (by simp) hc17 | exact vcellR rfl (by simp) hc17 | exact vcellS (by simp) (by simp) hc17 | exact vsplice (by simp) (by simp) | refine ceq ?_ ?_ | refine Eq.trans (vsplice (by first | (simp; done) | (simp; omega)) (by first | (simp; done) | (simp; omega))) ?_)), ?_⟩
  conv => whnf
  repeat (first | (refine And.intro (by first | exact Nat.le_of_ble_eq_true rfl | exact rfl | decide | omega | (simp [splice]; done) | (constructor <;> omega) | (simp [splice]; omega)) ?_; conv => whnf) | (refine optK_of (intA (by omega)) ?_; conv => whnf) | (refine optK_of (intA' (by omega)) ?_; conv => whnf))
  first | refine ⟨_, _, rfl, Sat.of_eq (toRoofS_sat rs hl false) (by repeat (first | rfl | exact vfull (by first | (simp [splice]; done) | (simp [splice]; omega)) | exact rfull (by first | (simp [splice]; done) | (simp [splice]; omega)) | exact vzeroR | exact vroofs (by simp; done) (by omega) | exact vcell rfl (by simp) hc17 | exact vcellR rfl (by simp) hc17 | exact vcellS (by simp) (by simp) hc17 | exact vsplice (by simp) (by simp) | refine ceq ?_ ?_ | refine Eq.trans (vsplice (by first | (simp; done) | (simp; omega)) (by first | (simp; done) | (simp; omega))) ?_)), ?_⟩ | refine .inl ⟨_, _, rfl, Sat.of_eq (toRoofS_sat rs hl false) (by repeat (first | rfl | exact vfull (by first | (simp [splice]; done) | (simp [splice]; omega)) | exact rfull (by first | (simp [splice]; done) | (simp [splice]; omega)) | exact vzeroR | exact vroofs (by simp; done) (by omega) | exact vcell rfl (by simp) hc17 | exact vcellR rfl (by simp) hc17 | exact vcellS (by simp) (by simp) hc17 | exact vsplice (by simp) (by simp) | refine ceq ?_ ?_ | refine Eq.trans (vsplice (by first | (simp; done) | (simp; omega)) (by first | (simp; done) | (simp; omega))) ?_)), ?_⟩
  conv => whnf
  repeat (first | (refine And.intro (by first | exact Nat.le_of_ble_eq_true rfl | exact rfl | decide | omega | (simp [splice]; done) | (constructor <;> omega) | (simp [splice]; omega)) ?_; conv => whnf) | (refine optK_of (intA (by omega)) ?_; conv => whnf) | (refine optK_of (intA' (by omega)) ?_; conv => whnf))
  first | refine ⟨_, _, rfl, Sat.of_eq (s2) (by repeat (first | rfl | exact vfull (by first | (simp [splice]; done) | (simp [splice]; omega)) | exact rfull (by first | (simp [splice]; done) | (simp [splice]; omega)) | exact vzeroR | exact vroofs (by simp; done) (by omega) | exact vcell rfl (by simp) hc17 | exact vcellR rfl (by simp) hc17 | exact vcellS (by simp) (by simp) hc17 | exact vsplice (by simp) (by simp) | refine ceq ?_ ?_ | refine Eq.trans (vsplice (by first | (simp; done) | (simp; omega)) (by first | (simp; done) | (simp; omega))) ?_)), ?_⟩ | refine .inl ⟨_, _, rfl, Sat.of_eq (s2) (by repeat (first | rfl | exact vfull (by first | (simp [splice]; done) | (simp [splice]; omega)) | exact rfull (by first | (simp [splice]; done) | (simp [splice]; omega)) | exact vzeroR | exact vroofs (by simp; done) (by omega) | exact vcell rfl (by simp) hc17 | exact vcellR rfl (by simp) hc17 | exact vcellS (by simp) (by simp) hc17 | exact vsplice (by simp) (by simp) | refine ceq ?_ ?_ | refine Eq.trans (vsplice (by first | (simp; done) | (simp; omega)) (by first | (simp; done) | (simp; omega))) ?_)), ?_⟩
  conv => whnf
  repeat (first | (refine And.intro (by first | exact Nat.le_of_ble_eq_true rfl | exact rfl | decide | omega | (simp [splice]; done) | (constructor <;> omega) | (simp [splice]; omega)) ?_; conv => whnf) | (refine optK_of (intA (by omega)) ?_; conv => whnf) | (refine optK_of (intA' (by omega)) ?_; conv => whnf))
  rw [show (x.1 != x.1) = false by simp]
  conv => whnf
  repeat (first | (refine And.intro (by first | exact Nat.le_of_ble_eq_true rfl | exact rfl | decide | omega | (simp [splice]; done) | (constructor <;> omega) | (simp [splice]; omega)) ?_; conv => whnf) | (refine optK_of (intA (by omega)) ?_; conv => whnf) | (refine optK_of (intA' (by omega)) ?_; conv => whnf))
  rw [show (x.2 != x.2) = false by simp]
  conv => whnf
  repeat (first | (refine And.intro (by first | exact Nat.le_of_ble_eq_true rfl | exact rfl | decide | omega | (simp [splice]; done) | (constructor <;> omega) | (simp [splice]; omega)) ?_; conv => whnf) | (refine optK_of (intA (by omega)) ?_; conv => whnf) | (refine optK_of (intA' (by omega)) ?_; conv => whnf))
  rw [show (y != y) = false by simp]
  conv => whnf
  repeat (first | (refine And.intro (by first | exact Nat.le_of_ble_eq_true rfl | exact rfl | decide | omega | (simp [splice]; done) | (constructor <;> omega) | (simp [splice]; omega)) ?_; conv => whnf) | (refine optK_of (intA (by omega)) ?_; conv => whnf) | (refine optK_of (intA' (by omega)) ?_; conv => whnf))
  first | refine ⟨_, _, rfl, Sat.of_eq (toRoofS_sat rs hl false) (by repeat (first | rfl | exact vfull (by first | (simp [splice]; done) | (simp [splice]; omega)) | exact rfull (by first | (simp [splice]; done) | (simp [splice]; omega)) | exact vzeroR | exact vroofs (by simp; done) (by omega) | exact vcell rfl (by simp) hc17 | exact vcellR rfl (by simp) hc17 | exact vcellS (by simp) (by simp) hc17 | exact vsplice (by simp) (by simp) | refine ceq ?_ ?_ | refine Eq.trans (vsplice (by first | (simp; done) | (simp; omega)) (by first | (simp; done) | (simp; omega))) ?_)), ?_⟩ | refine .inl ⟨_, _, rfl, Sat.of_eq (toRoofS_sat rs hl false) (by repeat (first | rfl | exact vfull (by first | (simp [splice]; done) | (simp [splice]; omega)) | exact rfull (by first | (simp [splice]; done) | (simp [splice]; omega)) | exact vzeroR | exact vroofs (by simp; done) (by omega) | exact vcell rfl (by simp) hc17 | exact vcellR rfl (by simp) hc17 | exact vcellS (by simp) (by simp) hc17 | exact vsplice (by simp) (by simp) | refine ceq ?_ ?_ | refine Eq.trans (vsplice (by first | (simp; done) | (simp; omega)) (by first | (simp; done) | (simp; omega))) ?_)), ?_⟩
  conv => whnf
  repeat (first | (refine And.intro (by first | exact Nat.le_of_ble_eq_true rfl | exact rfl | decide | omega | (simp [splice]; done) | (constructor <;> omega) | (simp [splice]; omega)) ?_; conv => whnf) | (refine optK_of (intA (by omega)) ?_; conv => whnf) | (refine optK_of (intA' (by omega)) ?_; conv => whnf))
  first | refine ⟨_, _, rfl, Sat.of_eq (eqRoofS_same rs hl false false) (by repeat (first | rfl | exact vfull (by first | (simp [splice]; done) | (simp [splice]; omega)) | exact rfull (by first | (simp [splice]; done) | (simp [splice]; omega)) | exact vzeroR | exact vroofs (by simp; done) (by omega) | exact vcell rfl (by simp) hc17 | exact vcellR rfl (by simp) hc17 | exact vcellS (by simp) (by simp) hc17 | exact vsplice (by simp) (by simp) | refine ceq ?_ ?_ | refine Eq.trans (vsplice (by first | (simp; done) | (simp; omega)) (by first | (simp; done) | (simp; omega))) ?_)), ?_⟩ | refine .inl ⟨_, _, rfl, Sat.of_eq (eqRoofS_same rs hl false false) (by repeat (first | rfl | exact vfull (by first | (simp [splice]; done) | (simp [splice]; omega)) | exact rfull (by first | (simp [splice]; done) | (simp [splice]; omega)) | exact vzeroR | exact vroofs (by simp; done) (by omega) | exact vcell rfl (by simp) hc17 | exact vcellR rfl (by simp) hc17 | exact vcellS (by simp) (by simp) hc17 | exact vsplice (by simp) (by simp) | refine ceq ?_ ?_ | refine Eq.trans (vsplice (by first | (simp; done) | (simp; omega)) (by first | (simp; done) | (simp; omega))) ?_)), ?_⟩
  conv => whnf
  repeat (first | (refine And.intro (by first | exact Nat.le_of_ble_eq_true rfl | exact rfl | decide | omega | (simp [splice]; done) | (constructor <;> omega) | (simp [splice]; omega)) ?_; conv => whnf) | (refine optK_of (intA (by omega)) ?_; conv => whnf) | (refine optK_of (intA' (by omega)) ?_; conv => whnf))
  first | refine ⟨rfl, _, rfl, ?_⟩ | refine ⟨_, rfl, ?_⟩
  rfl
end Go.Proofs.Ytndlknhakdadjaa
