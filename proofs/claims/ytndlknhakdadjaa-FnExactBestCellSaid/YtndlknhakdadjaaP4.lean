import Derived.Test.YtndlknhakdadjaaP3
set_option linter.unusedVariables false
set_option linter.unusedSimpArgs false
/- Contracts: roofs that are all as told; whether roofs might be. -/
set_option linter.unusedVariables false
set_option linter.unusedSimpArgs false
namespace Go.V
theorem roofsW0 {rs : List Roof} (h : 0 < rs.length) : nth (roofsC rs) (Int.toNat 0 * 67 + 0) = some (.int .i8 (rx rs 0).w) := roofsW (i := 0) h
theorem roofsH0 {rs : List Roof} (h : 0 < rs.length) : nth (roofsC rs) (Int.toNat 0 * 67 + 1) = some (.int .i8 (rx rs 0).h) := roofsH (i := 0) h
theorem roofsS0 {rs : List Roof} (h : 0 < rs.length) : nth (roofsC rs) (Int.toNat 0 * 67 + 2) = some (.int .u8 (rx rs 0).s) := roofsS (i := 0) h
def alB (a b : Roof) : Bool := (a.w == b.w && a.h == b.h) && a.s == b.s
def casI (rs : List Roof) : Int := if rs.length > 6 then 3 else if rs.all (alB (rx rs 0)) = true then 0 else 4
def csK (rs : List Roof) (w : Nat → Int) (b : Bool) : Int := if rs.all (fun r => okN r w) = true then (if b = true then casI rs else 2) else 1
def AllR (rs : List Roof) : Prop := ∀ i, i < rs.length → (rx rs i).In
theorem all_rx {rs : List Roof} {p : Roof → Bool} (h : ∀ i, i < rs.length → p (rx rs i) = true) : rs.all p = true := by
  rw [List.all_eq_true]
  intro x hx
  obtain ⟨j, hj, rfl⟩ := List.getElem_of_mem hx
  have := h j hj
  unfold rx at this
  rw [List.getD_eq_getElem?_getD] at this
  simpa [hj] using this
theorem rx_all {rs : List Roof} {p : Roof → Bool} (h : rs.all p = true) {i : Nat} (hi : i < rs.length) : p (rx rs i) = true := by
  have := List.all_eq_true.1 h rs[i] (List.getElem_mem hi)
  unfold rx
  rw [List.getD_eq_getElem?_getD]
  simpa [hi] using this
theorem rx_no {rs : List Roof} {p : Roof → Bool} {i : Nat} (hi : i < rs.length) (h : p (rx rs i) = false) : rs.all p = false := by
  cases hp : rs.all p with
  | false => rfl
  | true => rw [rx_all hp hi] at h; cases h
end Go.V
namespace Go.Proofs.Ytndlknhakdadjaa
open Go.V
theorem notRN_sat {g : Nat} {x : Roof} {y : Bool} (hg : Sat Try.prog g [roofD x] (.v (.bool y))) :
    Sat Try.prog 150 [roofD x, .ref false (.agg [.fn (.func g) [] []]) 0] (.v (.bool (!y))) := by
  refine sat_of_wp hMix tOk Try.func150 rfl rfl Try.ntmps150 rfl rfl Try.results150 (by kernel_rfl) ?_
  conv => whnf
  repeat (first | (refine And.intro (by first | exact Nat.le_of_ble_eq_true rfl | exact rfl | decide | omega | (simp [splice]; done) | (constructor <;> omega) | (simp [splice]; omega)) ?_; conv => whnf) )
  first | refine ⟨_, _, rfl, Sat.of_eq (hg) (by repeat (first | rfl | exact vfull (by first | (simp [splice]; done) | (simp [splice]; omega)) | exact rfull (by first | (simp [splice]; done) | (simp [splice]; omega)) | exact vroofs (by simp; done) (by omega) | exact vfnR | exact vsplice (by simp) (by simp) | refine ceq ?_ ?_ | refine Eq.trans (vsplice (by first | (simp; done) | (simp; omega)) (by first | (simp; done) | (simp; omega))) ?_)), ?_⟩ | refine .inl ⟨_, _, rfl, Sat.of_eq (hg) (by repeat (first | rfl | exact vfull (by first | (simp [splice]; done) | (simp [splice]; omega)) | exact rfull (by first | (simp [splice]; done) | (simp [splice]; omega)) | exact vroofs (by simp; done) (by omega) | exact vfnR | exact vsplice (by simp) (by simp) | refine ceq ?_ ?_ | refine Eq.trans (vsplice (by first | (simp; done) | (simp; omega)) (by first | (simp; done) | (simp; omega))) ?_)), ?_⟩
  conv => whnf
  repeat (first | (refine And.intro (by first | exact Nat.le_of_ble_eq_true rfl | exact rfl | decide | omega | (simp [splice]; done) | (constructor <;> omega) | (simp [splice]; omega)) ?_; conv => whnf) )
  first | refine ⟨rfl, _, rfl, ?_⟩ | refine ⟨_, rfl, ?_⟩
  rfl
theorem indexRN_sat {g : Nat} {p : Roof → Bool} (rs : List Roof) (hl : rs.length ≤ 1048576) (m : Bool) (hg : ∀ i, i < rs.length → Sat Try.prog g [roofD (rx rs i)] (.v (.bool (p (rx rs i))))) :
    Sat Try.prog 189 [roofsD m rs, .fn (.func 150) [] [.ref false (.agg [.fn (.func g) [] []]) 0]] (.v (.int .i64 (idxX (fun x => !p x) zeroR rs))) := by
  refine sat_of_wp hMix tOk Try.func189 rfl rfl Try.ntmps189 rfl rfl Try.results189 (by kernel_rfl) ?_
  conv => whnf
  repeat (first | (refine And.intro (by first | exact Nat.le_of_ble_eq_true rfl | exact rfl | decide | omega | (simp [splice]; done) | (constructor <;> omega) | (simp [splice]; omega)) ?_; conv => whnf) )
  refine loop_rule (α := Nat) (fun i => [(0, roofsD m rs), (1, .fn (.func 150) [] [.ref false (.agg [.fn (.func g) [] []]) 0]), (7, .v (.int .i64 rs.length)), (8, .v (.int .i64 i))]) (fun i => []) (fun i => i ≤ rs.length ∧ ∀ j, j < i → p (rx rs j) = true) (fun i => rs.length - i) (0) ?_ (sim_of (rn := []) rfl ?_ ?_) ?_
  · exact ⟨Nat.zero_le _, fun j hj => by omega⟩
  · ((repeat' (first | exact trivial | apply And.intro)) <;> (first | rfl | exact succ8 (by omega) | exact succ64 (by omega) | exact CapOk.fn (by assumption) _ _ | exact vintS (by omega) | exact vintS (by rw [w64 (by omega) (by omega)]; omega) | exact vintS (by rw [w8 (by omega) (by omega)]; omega) | exact vslcS (by omega) | exact vslcS (by simp)))
  · ((repeat' (first | exact trivial | apply And.intro)) <;> ((first | refine ⟨_, _, rfl, rfl, ?_⟩ ); rfl))
  rintro i ⟨hi, hall⟩
  conv => whnf
  repeat (first | (refine And.intro (by first | exact Nat.le_of_ble_eq_true rfl | exact rfl | decide | omega | (simp [splice]; done) | (constructor <;> omega) | (simp [splice]; omega)) ?_; conv => whnf) )
  cases h : decide ((i : Int) < (rs.length : Int))
  · have hin : i = rs.length := by simp at h; omega
    subst hin
    rw [idxX_none (p := fun x => !p x) (d := zeroR) fun j hj => by have := hall j hj; unfold rx at this; rw [this]; rfl]
    conv => whnf
    repeat (first | (refine And.intro (by first | exact Nat.le_of_ble_eq_true rfl | exact rfl | decide | omega | (simp [splice]; done) | (constructor <;> omega) | (simp [splice]; omega)) ?_; conv => whnf) )
    first | refine ⟨rfl, _, rfl, ?_⟩ | refine ⟨_, rfl, ?_⟩
    rfl
  have hin : i < rs.length := by simpa using h
  have hm : (i + 1) * 67 ≤ rs.length * 67 := Nat.mul_le_mul_right _ hin
  conv => whnf
  repeat (first | (refine And.intro (by first | exact Nat.le_of_ble_eq_true rfl | exact rfl | decide | omega | (simp [splice]; done) | (constructor <;> omega) | (simp [splice]; omega)) ?_; conv => whnf) )
  first | refine ⟨_, _, rfl, Sat.of_eq (notRN_sat (hg i hin)) (by repeat (first | rfl | exact vfull (by first | (simp [splice]; done) | (simp [splice]; omega)) | exact rfull (by first | (simp [splice]; done) | (simp [splice]; omega)) | exact vroofs (by simp; done) (by omega) | exact vfnR | exact vsplice (by simp) (by simp) | refine ceq ?_ ?_ | refine Eq.trans (vsplice (by first | (simp; done) | (simp; omega)) (by first | (simp; done) | (simp; omega))) ?_)), ?_⟩ | refine .inl ⟨_, _, rfl, Sat.of_eq (notRN_sat (hg i hin)) (by repeat (first | rfl | exact vfull (by first | (simp [splice]; done) | (simp [splice]; omega)) | exact rfull (by first | (simp [splice]; done) | (simp [splice]; omega)) | exact vroofs (by simp; done) (by omega) | exact vfnR | exact vsplice (by simp) (by simp) | refine ceq ?_ ?_ | refine Eq.trans (vsplice (by first | (simp; done) | (simp; omega)) (by first | (simp; done) | (simp; omega))) ?_)), ?_⟩
  conv => whnf
  repeat (first | (refine And.intro (by first | exact Nat.le_of_ble_eq_true rfl | exact rfl | decide | omega | (simp [splice]; done) | (constructor <;> omega) | (simp [splice]; omega)) ?_; conv => whnf) )
  cases h5 : p (rx rs i)
  · rw [idxX_some (p := fun x => !p x) (d := zeroR) hin (by unfold rx at h5; rw [h5]; rfl) fun j hj => by have := hall j hj; unfold rx at this; rw [this]; rfl]
    conv => whnf
    repeat (first | (refine And.intro (by first | exact Nat.le_of_ble_eq_true rfl | exact rfl | decide | omega | (simp [splice]; done) | (constructor <;> omega) | (simp [splice]; omega)) ?_; conv => whnf) )
    first | refine ⟨rfl, _, rfl, ?_⟩ | refine ⟨_, rfl, ?_⟩
    rfl
  have hall' := below_succ (p := fun j => p (rx rs j) = true) hall h5
  conv => whnf
  repeat (first | (refine And.intro (by first | exact Nat.le_of_ble_eq_true rfl | exact rfl | decide | omega | (simp [splice]; done) | (constructor <;> omega) | (simp [splice]; omega)) ?_; conv => whnf) )
  refine ⟨i + 1, ?_, ?_, sim_of (rn := []) rfl ?_ ?_⟩
  · (dsimp only; omega)
  · exact ⟨by omega, hall'⟩
  · ((repeat' (first | exact trivial | apply And.intro)) <;> (first | rfl | exact succ8 (by omega) | exact succ64 (by omega) | exact CapOk.fn (by assumption) _ _ | exact vintS (by omega) | exact vintS (by rw [w64 (by omega) (by omega)]; omega) | exact vintS (by rw [w8 (by omega) (by omega)]; omega) | exact vslcS (by omega) | exact vslcS (by simp)))
  · ((repeat' (first | exact trivial | apply And.intro)) <;> ((first | refine ⟨_, _, rfl, rfl, ?_⟩ ); rfl))
theorem areAllRN_sat {g : Nat} {p : Roof → Bool} (rs : List Roof) (hl : rs.length ≤ 1048576) (m : Bool) (hg : ∀ i, i < rs.length → Sat Try.prog g [roofD (rx rs i)] (.v (.bool (p (rx rs i))))) :
    Sat Try.prog 91 [roofsD m rs, .fn (.func g) [] []] (.v (.bool (rs.all p))) := by
  have hc : Sat Try.prog 149 [roofsD false rs, .fn (.func 150) [] [.ref false (.agg [.fn (.func g) [] []]) 0]] (.v (.bool (decide (idxX (fun x => !p x) zeroR rs ≥ 0)))) := by
    refine sat_of_wp hMix tOk Try.func149 rfl rfl Try.ntmps149 rfl rfl Try.results149 (by kernel_rfl) ?_
    conv => whnf
    repeat (first | (refine And.intro (by first | exact Nat.le_of_ble_eq_true rfl | exact rfl | decide | omega | (simp [splice]; done) | (constructor <;> omega) | (simp [splice]; omega)) ?_; conv => whnf) )
    first | refine ⟨_, _, rfl, Sat.of_eq (indexRN_sat rs hl false hg) (by repeat (first | rfl | exact vfull (by first | (simp [splice]; done) | (simp [splice]; omega)) | exact rfull (by first | (simp [splice]; done) | (simp [splice]; omega)) | exact vroofs (by simp; done) (by omega) | exact vfnR | exact vsplice (by simp) (by simp) | refine ceq ?_ ?_ | refine Eq.trans (vsplice (by first | (simp; done) | (simp; omega)) (by first | (simp; done) | (simp; omega))) ?_)), ?_⟩ | refine .inl ⟨_, _, rfl, Sat.of_eq (indexRN_sat rs hl false hg) (by repeat (first | rfl | exact vfull (by first | (simp [splice]; done) | (simp [splice]; omega)) | exact rfull (by first | (simp [splice]; done) | (simp [splice]; omega)) | exact vroofs (by simp; done) (by omega) | exact vfnR | exact vsplice (by simp) (by simp) | refine ceq ?_ ?_ | refine Eq.trans (vsplice (by first | (simp; done) | (simp; omega)) (by first | (simp; done) | (simp; omega))) ?_)), ?_⟩
    conv => whnf
    repeat (first | (refine And.intro (by first | exact Nat.le_of_ble_eq_true rfl | exact rfl | decide | omega | (simp [splice]; done) | (constructor <;> omega) | (simp [splice]; omega)) ?_; conv => whnf) )
    first | refine ⟨rfl, _, rfl, ?_⟩ | refine ⟨_, rfl, ?_⟩
    rfl
  refine sat_of_wp hMix tOk Try.func91 rfl rfl Try.ntmps91 rfl rfl Try.results91 (by kernel_rfl) ?_
  conv => whnf
  repeat (first | (refine And.intro (by first | exact Nat.le_of_ble_eq_true rfl | exact rfl | decide | omega | (simp [splice]; done) | (constructor <;> omega) | (simp [splice]; omega)) ?_; conv => whnf) )
  first | refine ⟨_, _, rfl, Sat.of_eq (hc) (by repeat (first | rfl | exact vfull (by first | (simp [splice]; done) | (simp [splice]; omega)) | exact rfull (by first | (simp [splice]; done) | (simp [splice]; omega)) | exact vroofs (by simp; done) (by omega) | exact vfnR | exact vsplice (by simp) (by simp) | refine ceq ?_ ?_ | refine Eq.trans (vsplice (by first | (simp; done) | (simp; omega)) (by first | (simp; done) | (simp; omega))) ?_)), ?_⟩ | refine .inl ⟨_, _, rfl, Sat.of_eq (hc) (by repeat (first | rfl | exact vfull (by first | (simp [splice]; done) | (simp [splice]; omega)) | exact rfull (by first | (simp [splice]; done) | (simp [splice]; omega)) | exact vroofs (by simp; done) (by omega) | exact vfnR | exact vsplice (by simp) (by simp) | refine ceq ?_ ?_ | refine Eq.trans (vsplice (by first | (simp; done) | (simp; omega)) (by first | (simp; done) | (simp; omega))) ?_)), ?_⟩
  conv => whnf
  repeat (first | (refine And.intro (by first | exact Nat.le_of_ble_eq_true rfl | exact rfl | decide | omega | (simp [splice]; done) | (constructor <;> omega) | (simp [splice]; omega)) ?_; conv => whnf) )
  first | refine ⟨rfl, _, rfl, ?_⟩ | refine ⟨_, rfl, ?_⟩
  skip
  rw [← idxX_all p zeroR rs]; rfl
theorem notRR_sat {q : Roof} {g : Nat} {x : Roof} {y : Bool} (hg : Sat Try.prog g [roofD q, roofD x] (.v (.bool y))) :
    Sat Try.prog 150 [roofD x, .ref false (.agg [.fn (.func g) [roofD q] []]) 0] (.v (.bool (!y))) := by
  refine sat_of_wp hMix tOk Try.func150 rfl rfl Try.ntmps150 rfl rfl Try.results150 (by kernel_rfl) ?_
  conv => whnf
  repeat (first | (refine And.intro (by first | exact Nat.le_of_ble_eq_true rfl | exact rfl | decide | omega | (simp [splice]; done) | (constructor <;> omega) | (simp [splice]; omega)) ?_; conv => whnf) )
  first | refine ⟨_, _, rfl, Sat.of_eq (hg) (by repeat (first | rfl | exact vfull (by first | (simp [splice]; done) | (simp [splice]; omega)) | exact rfull (by first | (simp [splice]; done) | (simp [splice]; omega)) | exact vroofs (by simp; done) (by omega) | exact vfnR | exact vsplice (by simp) (by simp) | refine ceq ?_ ?_ | refine Eq.trans (vsplice (by first | (simp; done) | (simp; omega)) (by first | (simp; done) | (simp; omega))) ?_)), ?_⟩ | refine .inl ⟨_, _, rfl, Sat.of_eq (hg) (by repeat (first | rfl | exact vfull (by first | (simp [splice]; done) | (simp [splice]; omega)) | exact rfull (by first | (simp [splice]; done) | (simp [splice]; omega)) | exact vroofs (by simp; done) (by omega) | exact vfnR | exact vsplice (by simp) (by simp) | refine ceq ?_ ?_ | refine Eq.trans (vsplice (by first | (simp; done) | (simp; omega)) (by first | (simp; done) | (simp; omega))) ?_)), ?_⟩
  conv => whnf
  repeat (first | (refine And.intro (by first | exact Nat.le_of_ble_eq_true rfl | exact rfl | decide | omega | (simp [splice]; done) | (constructor <;> omega) | (simp [splice]; omega)) ?_; conv => whnf) )
  first | refine ⟨rfl, _, rfl, ?_⟩ | refine ⟨_, rfl, ?_⟩
  rfl
theorem indexRR_sat {q : Roof} {g : Nat} {p : Roof → Bool} (rs : List Roof) (hl : rs.length ≤ 1048576) (m : Bool) (hg : ∀ i, i < rs.length → Sat Try.prog g [roofD q, roofD (rx rs i)] (.v (.bool (p (rx rs i))))) :
    Sat Try.prog 189 [roofsD m rs, .fn (.func 150) [] [.ref false (.agg [.fn (.func g) [roofD q] []]) 0]] (.v (.int .i64 (idxX (fun x => !p x) zeroR rs))) := by
  refine sat_of_wp hMix tOk Try.func189 rfl rfl Try.ntmps189 rfl rfl Try.results189 (by kernel_rfl) ?_
  conv => whnf
  repeat (first | (refine And.intro (by first | exact Nat.le_of_ble_eq_true rfl | exact rfl | decide | omega | (simp [splice]; done) | (constructor <;> omega) | (simp [splice]; omega)) ?_; conv => whnf) )
  refine loop_rule (α := Nat) (fun i => [(0, roofsD m rs), (1, .fn (.func 150) [] [.ref false (.agg [.fn (.func g) [roofD q] []]) 0]), (7, .v (.int .i64 rs.length)), (8, .v (.int .i64 i))]) (fun i => []) (fun i => i ≤ rs.length ∧ ∀ j, j < i → p (rx rs j) = true) (fun i => rs.length - i) (0) ?_ (sim_of (rn := []) rfl ?_ ?_) ?_
  · exact ⟨Nat.zero_le _, fun j hj => by omega⟩
  · ((repeat' (first | exact trivial | apply And.intro)) <;> (first | rfl | exact succ8 (by omega) | exact succ64 (by omega) | exact CapOk.fn (by assumption) _ _ | exact vintS (by omega) | exact vintS (by rw [w64 (by omega) (by omega)]; omega) | exact vintS (by rw [w8 (by omega) (by omega)]; omega) | exact vslcS (by omega) | exact vslcS (by simp)))
  · ((repeat' (first | exact trivial | apply And.intro)) <;> ((first | refine ⟨_, _, rfl, rfl, ?_⟩ ); rfl))
  rintro i ⟨hi, hall⟩
  conv => whnf
  repeat (first | (refine And.intro (by first | exact Nat.le_of_ble_eq_true rfl | exact rfl | decide | omega | (simp [splice]; done) | (constructor <;> omega) | (simp [splice]; omega)) ?_; conv => whnf) )
  cases h : decide ((i : Int) < (rs.length : Int))
  · have hin : i = rs.length := by simp at h; omega
    subst hin
    rw [idxX_none (p := fun x => !p x) (d := zeroR) fun j hj => by have := hall j hj; unfold rx at this; rw [this]; rfl]
    conv => whnf
    repeat (first | (refine And.intro (by first | exact Nat.le_of_ble_eq_true rfl | exact rfl | decide | omega | (simp [splice]; done) | (constructor <;> omega) | (simp [splice]; omega)) ?_; conv => whnf) )
    first | refine ⟨rfl, _, rfl, ?_⟩ | refine ⟨_, rfl, ?_⟩
    rfl
  have hin : i < rs.length := by simpa using h
  have hm : (i + 1) * 67 ≤ rs.length * 67 := Nat.mul_le_mul_right _ hin
  conv => whnf
  repeat (first | (refine And.intro (by first | exact Nat.le_of_ble_eq_true rfl | exact rfl | decide | omega | (simp [splice]; done) | (constructor <;> omega) | (simp [splice]; omega)) ?_; conv => whnf) )
  first | refine ⟨_, _, rfl, Sat.of_eq (notRR_sat (hg i hin)) (by repeat (first | rfl | exact vfull (by first | (simp [splice]; done) | (simp [splice]; omega)) | exact rfull (by first | (simp [splice]; done) | (simp [splice]; omega)) | exact vroofs (by simp; done) (by omega) | exact vfnR | exact vsplice (by simp) (by simp) | refine ceq ?_ ?_ | refine Eq.trans (vsplice (by first | (simp; done) | (simp; omega)) (by first | (simp; done) | (simp; omega))) ?_)), ?_⟩ | refine .inl ⟨_, _, rfl, Sat.of_eq (notRR_sat (hg i hin)) (by repeat (first | rfl | exact vfull (by first | (simp [splice]; done) | (simp [splice]; omega)) | exact rfull (by first | (simp [splice]; done) | (simp [splice]; omega)) | exact vroofs (by simp; done) (by omega) | exact vfnR | exact vsplice (by simp) (by simp) | refine ceq ?_ ?_ | refine Eq.trans (vsplice (by first | (simp; done) | (simp; omega)) (by first | (simp; done) | (simp; omega))) ?_)), ?_⟩
  conv => whnf
  repeat (first | (refine And.intro (by first | exact Nat.le_of_ble_eq_true rfl | exact rfl | decide | omega | (simp [splice]; done) | (constructor <;> omega) | (simp [splice]; omega)) ?_; conv => whnf) )
  cases h5 : p (rx rs i)
  · rw [idxX_some (p := fun x => !p x) (d := zeroR) hin (by unfold rx at h5; rw [h5]; rfl) fun j hj => by have := hall j hj; unfold rx at this; rw [this]; rfl]
    conv => whnf
    repeat (first | (refine And.intro (by first | exact Nat.le_of_ble_eq_true rfl | exact rfl | decide | omega | (simp [splice]; done) | (constructor <;> omega) | (simp [splice]; omega)) ?_; conv => whnf) )
    first | refine ⟨rfl, _, rfl, ?_⟩ | refine ⟨_, rfl, ?_⟩
    rfl
  have hall' := below_succ (p := fun j => p (rx rs j) = true) hall h5
  conv => whnf
  repeat (first | (refine And.intro (by first | exact Nat.le_of_ble_eq_true rfl | exact rfl | decide | omega | (simp [splice]; done) | (constructor <;> omega) | (simp [splice]; omega)) ?_; conv => whnf) )
  refine ⟨i + 1, ?_, ?_, sim_of (rn := []) rfl ?_ ?_⟩
  · (dsimp only; omega)
  · exact ⟨by omega, hall'⟩
  · ((repeat' (first | exact trivial | apply And.intro)) <;> (first | rfl | exact succ8 (by omega) | exact succ64 (by omega) | exact CapOk.fn (by assumption) _ _ | exact vintS (by omega) | exact vintS (by rw [w64 (by omega) (by omega)]; omega) | exact vintS (by rw [w8 (by omega) (by omega)]; omega) | exact vslcS (by omega) | exact vslcS (by simp)))
  · ((repeat' (first | exact trivial | apply And.intro)) <;> ((first | refine ⟨_, _, rfl, rfl, ?_⟩ ); rfl))
theorem areAllRR_sat {q : Roof} {g : Nat} {p : Roof → Bool} (rs : List Roof) (hl : rs.length ≤ 1048576) (m : Bool) (hg : ∀ i, i < rs.length → Sat Try.prog g [roofD q, roofD (rx rs i)] (.v (.bool (p (rx rs i))))) :
    Sat Try.prog 91 [roofsD m rs, .fn (.func g) [roofD q] []] (.v (.bool (rs.all p))) := by
  have hc : Sat Try.prog 149 [roofsD false rs, .fn (.func 150) [] [.ref false (.agg [.fn (.func g) [roofD q] []]) 0]] (.v (.bool (decide (idxX (fun x => !p x) zeroR rs ≥ 0)))) := by
    refine sat_of_wp hMix tOk Try.func149 rfl rfl Try.ntmps149 rfl rfl Try.results149 (by kernel_rfl) ?_
    conv => whnf
    repeat (first | (refine And.intro (by first | exact Nat.le_of_ble_eq_true rfl | exact rfl | decide | omega | (simp [splice]; done) | (constructor <;> omega) | (simp [splice]; omega)) ?_; conv => whnf) )
    first | refine ⟨_, _, rfl, Sat.of_eq (indexRR_sat rs hl false hg) (by repeat (first | rfl | exact vfull (by first | (simp [splice]; done) | (simp [splice]; omega)) | exact rfull (by first | (simp [splice]; done) | (simp [splice]; omega)) | exact vroofs (by simp; done) (by omega) | exact vfnR | exact vsplice (by simp) (by simp) | refine ceq ?_ ?_ | refine Eq.trans (vsplice (by first | (simp; done) | (simp; omega)) (by first | (simp; done) | (simp; omega))) ?_)), ?_⟩ | refine .inl ⟨_, _, rfl, Sat.of_eq (indexRR_sat rs hl false hg) (by repeat (first | rfl | exact vfull (by first | (simp [splice]; done) | (simp [splice]; omega)) | exact rfull (by first | (simp [splice]; done) | (simp [splice]; omega)) | exact vroofs (by simp; done) (by omega) | exact vfnR | exact vsplice (by simp) (by simp) | refine ceq ?_ ?_ | refine Eq.trans (vsplice (by first | (simp; done) | (simp; omega)) (by first | (simp; done) | (simp; omega))) ?_)), ?_⟩
    conv => whnf
    repeat (first | (refine And.intro (by first | exact Nat.le_of_ble_eq_true rfl | exact rfl | decide | omega | (simp [splice]; done) | (constructor <;> omega) | (simp [splice]; omega)) ?_; conv => whnf) )
    first | refine ⟨rfl, _, rfl, ?_⟩ | refine ⟨_, rfl, ?_⟩
    rfl
  refine sat_of_wp hMix tOk Try.func91 rfl rfl Try.ntmps91 rfl rfl Try.results91 (by kernel_rfl) ?_
  conv => whnf
  repeat (first | (refine And.intro (by first | exact Nat.le_of_ble_eq_true rfl | exact rfl | decide | omega | (simp [splice]; done) | (constructor <;> omega) | (simp [splice]; omega)) ?_; conv => whnf) )
  first | refine ⟨_, _, rfl, Sat.of_eq (hc) (by repeat (first | rfl | exact vfull (by first | (simp [splice]; done) | (simp [splice]; omega)) | exact rfull (by first | (simp [splice]; done) | (simp [splice]; omega)) | exact vroofs (by simp; done) (by omega) | exact vfnR | exact vsplice (by simp) (by simp) | refine ceq ?_ ?_ | refine Eq.trans (vsplice (by first | (simp; done) | (simp; omega)) (by first | (simp; done) | (simp; omega))) ?_)), ?_⟩ | refine .inl ⟨_, _, rfl, Sat.of_eq (hc) (by repeat (first | rfl | exact vfull (by first | (simp [splice]; done) | (simp [splice]; omega)) | exact rfull (by first | (simp [splice]; done) | (simp [splice]; omega)) | exact vroofs (by simp; done) (by omega) | exact vfnR | exact vsplice (by simp) (by simp) | refine ceq ?_ ?_ | refine Eq.trans (vsplice (by first | (simp; done) | (simp; omega)) (by first | (simp; done) | (simp; omega))) ?_)), ?_⟩
  conv => whnf
  repeat (first | (refine And.intro (by first | exact Nat.le_of_ble_eq_true rfl | exact rfl | decide | omega | (simp [splice]; done) | (constructor <;> omega) | (simp [splice]; omega)) ?_; conv => whnf) )
  first | refine ⟨rfl, _, rfl, ?_⟩ | refine ⟨_, rfl, ?_⟩
  skip
  rw [← idxX_all p zeroR rs]; rfl
theorem isAlike_sat (q x : Roof) : Sat Try.prog 153 [roofD q, roofD x] (.v (.bool (alB q x))) := by
  refine sat_of_wp hMix tOk Try.func153 rfl rfl Try.ntmps153 rfl rfl Try.results153 (by kernel_rfl) ?_
  conv => whnf
  repeat (first | (refine And.intro (by first | exact Nat.le_of_ble_eq_true rfl | exact rfl | decide | omega | (simp [splice]; done) | (constructor <;> omega) | (simp [splice]; omega)) ?_; conv => whnf) )
  have hd : alB q x = ((q.w == x.w && q.h == x.h) && q.s == x.s) := rfl
  rw [hd]
  cases h1 : (q.w == x.w)
  · conv => whnf
    repeat (first | (refine And.intro (by first | exact Nat.le_of_ble_eq_true rfl | exact rfl | decide | omega | (simp [splice]; done) | (constructor <;> omega) | (simp [splice]; omega)) ?_; conv => whnf) )
    first | refine ⟨rfl, _, rfl, ?_⟩ | refine ⟨_, rfl, ?_⟩
    rfl
  conv => whnf
  repeat (first | (refine And.intro (by first | exact Nat.le_of_ble_eq_true rfl | exact rfl | decide | omega | (simp [splice]; done) | (constructor <;> omega) | (simp [splice]; omega)) ?_; conv => whnf) )
  cases h2 : (q.h == x.h)
  · conv => whnf
    repeat (first | (refine And.intro (by first | exact Nat.le_of_ble_eq_true rfl | exact rfl | decide | omega | (simp [splice]; done) | (constructor <;> omega) | (simp [splice]; omega)) ?_; conv => whnf) )
    first | refine ⟨rfl, _, rfl, ?_⟩ | refine ⟨_, rfl, ?_⟩
    rfl
  conv => whnf
  repeat (first | (refine And.intro (by first | exact Nat.le_of_ble_eq_true rfl | exact rfl | decide | omega | (simp [splice]; done) | (constructor <;> omega) | (simp [splice]; omega)) ?_; conv => whnf) )
  first | refine ⟨rfl, _, rfl, ?_⟩ | refine ⟨_, rfl, ?_⟩
  rfl
theorem firstRoof_sat (rs : List Roof) (hl : rs.length ≤ 1048576) (m : Bool) : Sat Try.prog 152 [roofsD m rs] (roofD (rx rs 0)) := by
  refine sat_of_wp hMix tOk Try.func152 rfl rfl Try.ntmps152 rfl rfl Try.results152 (by kernel_rfl) ?_
  conv => whnf
  repeat (first | (refine And.intro (by first | exact Nat.le_of_ble_eq_true rfl | exact rfl | decide | omega | (simp [splice]; done) | (constructor <;> omega) | (simp [splice]; omega)) ?_; conv => whnf) )
  cases h : ((rs.length : Int) == 0)
  · have h0 : 0 < rs.length := by
      have : ¬ (rs.length : Int) = 0 := by simpa using h
      omega
    have hm : 1 * 67 ≤ rs.length * 67 := Nat.mul_le_mul_right _ h0
    conv => whnf
    repeat (first | (refine And.intro (by first | exact Nat.le_of_ble_eq_true rfl | exact rfl | decide | omega | (simp [splice]; done) | (constructor <;> omega) | (simp [splice]; omega)) ?_; conv => whnf) )
    first | refine ⟨rfl, _, rfl, ?_⟩ | refine ⟨_, rfl, ?_⟩
    skip
    have e := roofs_sub (rs := rs) (i := 0) (o := Int.toNat 0 * 67) (by simp) h0
    refine Eq.symm (Eq.trans ?_ (roofD_copied (r := rx rs 0) (xs := [.int .i8 0, .int .i8 0] ++ List.replicate 65 (.int .u8 0)) (by simp)))
    rw [take_drop0 (n := 67) (xs := roofC (rx rs 0)) (by simp), ← e]; rfl
  have h0 : rs = [] := by
    have : (rs.length : Int) = 0 := by simpa using h
    exact List.length_eq_zero_iff.1 (by omega)
  subst h0
  conv => whnf
  repeat (first | (refine And.intro (by first | exact Nat.le_of_ble_eq_true rfl | exact rfl | decide | omega | (simp [splice]; done) | (constructor <;> omega) | (simp [splice]; omega)) ?_; conv => whnf) )
  first | refine ⟨rfl, _, rfl, ?_⟩ | refine ⟨_, rfl, ?_⟩
  skip
  show roofD zeroR = _
  unfold roofD; rw [zeroR_c]; rfl
theorem casesCode_sat (rs : List Roof) (hl : rs.length ≤ 1048576) (m : Bool) : Sat Try.prog 94 [roofsD m rs] (.v (.int .i64 (casI rs))) := by
  refine sat_of_wp hMix tOk Try.func94 rfl rfl Try.ntmps94 rfl rfl Try.results94 (by kernel_rfl) ?_
  conv => whnf
  repeat (first | (refine And.intro (by first | exact Nat.le_of_ble_eq_true rfl | exact rfl | decide | omega | (simp [splice]; done) | (constructor <;> omega) | (simp [splice]; omega)) ?_; conv => whnf) )
  cases h : decide ((rs.length : Int) > 6)
  case true =>
    have h' : rs.length > 6 := by have : (rs.length : Int) > 6 := by simpa using h
                                  omega
    rw [show casI rs = 3 by unfold casI; rw [if_pos h']]
    conv => whnf
    repeat (first | (refine And.intro (by first | exact Nat.le_of_ble_eq_true rfl | exact rfl | decide | omega | (simp [splice]; done) | (constructor <;> omega) | (simp [splice]; omega)) ?_; conv => whnf) )
    first | refine ⟨rfl, _, rfl, ?_⟩ | refine ⟨_, rfl, ?_⟩
    rfl
  have h' : ¬ rs.length > 6 := by have : ¬ (rs.length : Int) > 6 := by simpa using h
                                  omega
  conv => whnf
  repeat (first | (refine And.intro (by first | exact Nat.le_of_ble_eq_true rfl | exact rfl | decide | omega | (simp [splice]; done) | (constructor <;> omega) | (simp [splice]; omega)) ?_; conv => whnf) )
  first | refine ⟨_, _, rfl, Sat.of_eq (firstRoof_sat rs hl false) (by repeat (first | rfl | exact vfull (by first | (simp [splice]; done) | (simp [splice]; omega)) | exact rfull (by first | (simp [splice]; done) | (simp [splice]; omega)) | exact vroofs (by simp; done) (by omega) | exact vfnR | exact vsplice (by simp) (by simp) | refine ceq ?_ ?_ | refine Eq.trans (vsplice (by first | (simp; done) | (simp; omega)) (by first | (simp; done) | (simp; omega))) ?_)), ?_⟩ | refine .inl ⟨_, _, rfl, Sat.of_eq (firstRoof_sat rs hl false) (by repeat (first | rfl | exact vfull (by first | (simp [splice]; done) | (simp [splice]; omega)) | exact rfull (by first | (simp [splice]; done) | (simp [splice]; omega)) | exact vroofs (by simp; done) (by omega) | exact vfnR | exact vsplice (by simp) (by simp) | refine ceq ?_ ?_ | refine Eq.trans (vsplice (by first | (simp; done) | (simp; omega)) (by first | (simp; done) | (simp; omega))) ?_)), ?_⟩
  conv => whnf
  repeat (first | (refine And.intro (by first | exact Nat.le_of_ble_eq_true rfl | exact rfl | decide | omega | (simp [splice]; done) | (constructor <;> omega) | (simp [splice]; omega)) ?_; conv => whnf) )
  first | refine ⟨_, _, rfl, Sat.of_eq (areAllRR_sat (g := 153) (q := rx rs 0) (p := alB (rx rs 0)) rs hl false fun i hi => isAlike_sat (rx rs 0) (rx rs i)) (by repeat (first | rfl | exact vfull (by first | (simp [splice]; done) | (simp [splice]; omega)) | exact rfull (by first | (simp [splice]; done) | (simp [splice]; omega)) | exact vroofs (by simp; done) (by omega) | exact vfnR | exact vsplice (by simp) (by simp) | refine ceq ?_ ?_ | refine Eq.trans (vsplice (by first | (simp; done) | (simp; omega)) (by first | (simp; done) | (simp; omega))) ?_)), ?_⟩ | refine .inl ⟨_, _, rfl, Sat.of_eq (areAllRR_sat (g := 153) (q := rx rs 0) (p := alB (rx rs 0)) rs hl false fun i hi => isAlike_sat (rx rs 0) (rx rs i)) (by repeat (first | rfl | exact vfull (by first | (simp [splice]; done) | (simp [splice]; omega)) | exact rfull (by first | (simp [splice]; done) | (simp [splice]; omega)) | exact vroofs (by simp; done) (by omega) | exact vfnR | exact vsplice (by simp) (by simp) | refine ceq ?_ ?_ | refine Eq.trans (vsplice (by first | (simp; done) | (simp; omega)) (by first | (simp; done) | (simp; omega))) ?_)), ?_⟩
  conv => whnf
  repeat (first | (refine And.intro (by first | exact Nat.le_of_ble_eq_true rfl | exact rfl | decide | omega | (simp [splice]; done) | (constructor <;> omega) | (simp [splice]; omega)) ?_; conv => whnf) )
  cases h2 : rs.all (alB (rx rs 0))
  · rw [show casI rs = 4 by unfold casI; rw [if_neg h', h2]; rfl]
    conv => whnf
    repeat (first | (refine And.intro (by first | exact Nat.le_of_ble_eq_true rfl | exact rfl | decide | omega | (simp [splice]; done) | (constructor <;> omega) | (simp [splice]; omega)) ?_; conv => whnf) )
    first | refine ⟨rfl, _, rfl, ?_⟩ | refine ⟨_, rfl, ?_⟩
    rfl
  rw [show casI rs = 0 by unfold casI; rw [if_neg h', h2]; rfl]
  conv => whnf
  repeat (first | (refine And.intro (by first | exact Nat.le_of_ble_eq_true rfl | exact rfl | decide | omega | (simp [splice]; done) | (constructor <;> omega) | (simp [splice]; omega)) ?_; conv => whnf) )
  first | refine ⟨rfl, _, rfl, ?_⟩ | refine ⟨_, rfl, ?_⟩
  rfl
theorem l03Cases_sat (rs : List Roof) (hl : rs.length ≤ 1048576) (hR : AllR rs) (w : Nat → Int) (hw : RaiIn w) (b m : Bool) : Sat Try.prog 88 [roofsD m rs, .ref false (raiD w) 0, .v (.bool b)] (.v (.int .i64 (csK rs w b))) := by
  refine sat_of_wp hMix tOk Try.func88 rfl rfl Try.ntmps88 rfl rfl Try.results88 (by kernel_rfl) ?_
  conv => whnf
  repeat (first | (refine And.intro (by first | exact Nat.le_of_ble_eq_true rfl | exact rfl | decide | omega | (simp [splice]; done) | (constructor <;> omega) | (simp [splice]; omega)) ?_; conv => whnf) )
  refine loop_rule (α := Nat) (fun i => [(0, roofsD m rs), (1, .ref false (raiD w) 0), (2, .v (.bool b)), (7, .v (.int .i64 i))]) (fun i => []) (fun i => i ≤ rs.length ∧ ∀ j, j < i → okN (rx rs j) w = true) (fun i => rs.length - i) (0) ?_ (sim_of (rn := []) rfl ?_ ?_) ?_
  · exact ⟨Nat.zero_le _, fun j hj => by omega⟩
  · ((repeat' (first | exact trivial | apply And.intro)) <;> (first | rfl | exact succ8 (by omega) | exact succ64 (by omega) | exact CapOk.fn (by assumption) _ _ | exact vintS (by omega) | exact vintS (by rw [w64 (by omega) (by omega)]; omega) | exact vintS (by rw [w8 (by omega) (by omega)]; omega) | exact vslcS (by omega) | exact vslcS (by simp)))
  · ((repeat' (first | exact trivial | apply And.intro)) <;> ((first | refine ⟨_, _, rfl, rfl, ?_⟩ ); rfl))
  rintro i ⟨hi, hall⟩
  conv => whnf
  repeat (first | (refine And.intro (by first | exact Nat.le_of_ble_eq_true rfl | exact rfl | decide | omega | (simp [splice]; done) | (constructor <;> omega) | (simp [splice]; omega)) ?_; conv => whnf) )
  cases h : decide ((i : Int) < (rs.length : Int))
  case true =>
    have hin : i < rs.length := by simpa using h
    have hm : (i + 1) * 67 ≤ rs.length * 67 := Nat.mul_le_mul_right _ hin
    conv => whnf
    repeat (first | (refine And.intro (by first | exact Nat.le_of_ble_eq_true rfl | exact rfl | decide | omega | (simp [splice]; done) | (constructor <;> omega) | (simp [splice]; omega)) ?_; conv => whnf) )
    first | refine ⟨_, _, rfl, Sat.of_eq (Sat.sub (xs := roofsC rs) (off := (i : Int).toNat * 67) (n := 67) (l02Ok_sat (rx rs i) (hR i hin) w hw) (roofs_sub (i := i) (by simp) hin) (roofC_len _) (by omega)) (by repeat (first | rfl | exact vfull (by first | (simp [splice]; done) | (simp [splice]; omega)) | exact rfull (by first | (simp [splice]; done) | (simp [splice]; omega)) | exact vroofs (by simp; done) (by omega) | exact vfnR | exact vsplice (by simp) (by simp) | refine ceq ?_ ?_ | refine Eq.trans (vsplice (by first | (simp; done) | (simp; omega)) (by first | (simp; done) | (simp; omega))) ?_)), ?_⟩ | refine .inl ⟨_, _, rfl, Sat.of_eq (Sat.sub (xs := roofsC rs) (off := (i : Int).toNat * 67) (n := 67) (l02Ok_sat (rx rs i) (hR i hin) w hw) (roofs_sub (i := i) (by simp) hin) (roofC_len _) (by omega)) (by repeat (first | rfl | exact vfull (by first | (simp [splice]; done) | (simp [splice]; omega)) | exact rfull (by first | (simp [splice]; done) | (simp [splice]; omega)) | exact vroofs (by simp; done) (by omega) | exact vfnR | exact vsplice (by simp) (by simp) | refine ceq ?_ ?_ | refine Eq.trans (vsplice (by first | (simp; done) | (simp; omega)) (by first | (simp; done) | (simp; omega))) ?_)), ?_⟩
    conv => whnf
    repeat (first | (refine And.intro (by first | exact Nat.le_of_ble_eq_true rfl | exact rfl | decide | omega | (simp [splice]; done) | (constructor <;> omega) | (simp [splice]; omega)) ?_; conv => whnf) )
    cases h2 : okN (rx rs i) w
    · rw [show csK rs w b = 1 by unfold csK; rw [rx_no (p := fun r => okN r w) hin h2]; rfl]
      conv => whnf
      repeat (first | (refine And.intro (by first | exact Nat.le_of_ble_eq_true rfl | exact rfl | decide | omega | (simp [splice]; done) | (constructor <;> omega) | (simp [splice]; omega)) ?_; conv => whnf) )
      first | refine ⟨rfl, _, rfl, ?_⟩ | refine ⟨_, rfl, ?_⟩
      rfl
    have hall' := below_succ (p := fun j => okN (rx rs j) w = true) hall h2
    conv => whnf
    repeat (first | (refine And.intro (by first | exact Nat.le_of_ble_eq_true rfl | exact rfl | decide | omega | (simp [splice]; done) | (constructor <;> omega) | (simp [splice]; omega)) ?_; conv => whnf) )
    refine ⟨i + 1, ?_, ?_, sim_of (rn := []) rfl ?_ ?_⟩
    · (dsimp only; omega)
    · exact ⟨by omega, hall'⟩
    · ((repeat' (first | exact trivial | apply And.intro)) <;> (first | rfl | exact succ8 (by omega) | exact succ64 (by omega) | exact CapOk.fn (by assumption) _ _ | exact vintS (by omega) | exact vintS (by rw [w64 (by omega) (by omega)]; omega) | exact vintS (by rw [w8 (by omega) (by omega)]; omega) | exact vslcS (by omega) | exact vslcS (by simp)))
    · ((repeat' (first | exact trivial | apply And.intro)) <;> ((first | refine ⟨_, _, rfl, rfl, ?_⟩ ); rfl))
  have hin : i = rs.length := by simp at h; omega
  subst hin
  have ha : rs.all (fun r => okN r w) = true := all_rx hall
  conv => whnf
  repeat (first | (refine And.intro (by first | exact Nat.le_of_ble_eq_true rfl | exact rfl | decide | omega | (simp [splice]; done) | (constructor <;> omega) | (simp [splice]; omega)) ?_; conv => whnf) )
  cases b
  · rw [show csK rs w false = 2 by unfold csK; rw [ha]; rfl]
    conv => whnf
    repeat (first | (refine And.intro (by first | exact Nat.le_of_ble_eq_true rfl | exact rfl | decide | omega | (simp [splice]; done) | (constructor <;> omega) | (simp [splice]; omega)) ?_; conv => whnf) )
    first | refine ⟨rfl, _, rfl, ?_⟩ | refine ⟨_, rfl, ?_⟩
    rfl
  rw [show csK rs w true = casI rs by unfold csK; rw [ha]; rfl]
  conv => whnf
  repeat (first | (refine And.intro (by first | exact Nat.le_of_ble_eq_true rfl | exact rfl | decide | omega | (simp [splice]; done) | (constructor <;> omega) | (simp [splice]; omega)) ?_; conv => whnf) )
  cases h : decide ((rs.length : Int) > 6)
  case true =>
    have h' : rs.length > 6 := by have : (rs.length : Int) > 6 := by simpa using h
                                  omega
    rw [show casI rs = 3 by unfold casI; rw [if_pos h']]
    conv => whnf
    repeat (first | (refine And.intro (by first | exact Nat.le_of_ble_eq_true rfl | exact rfl | decide | omega | (simp [splice]; done) | (constructor <;> omega) | (simp [splice]; omega)) ?_; conv => whnf) )
    first | refine ⟨rfl, _, rfl, ?_⟩ | refine ⟨_, rfl, ?_⟩
    rfl
  have h' : ¬ rs.length > 6 := by have : ¬ (rs.length : Int) > 6 := by simpa using h
                                  omega
  conv => whnf
  repeat (first | (refine And.intro (by first | exact Nat.le_of_ble_eq_true rfl | exact rfl | decide | omega | (simp [splice]; done) | (constructor <;> omega) | (simp [splice]; omega)) ?_; conv => whnf) )
  refine loop_rule (α := Nat) (fun i => [(0, roofsD m rs), (8, .v (.int .i64 i))]) (fun i => []) (fun i => (1 ≤ i ∧ i ≤ 7) ∧ ∀ j, j < i → j < rs.length → alB (rx rs 0) (rx rs j) = true) (fun i => 8 - i) (1) ?_ (sim_of (rn := []) rfl ?_ ?_) ?_
  · exact ⟨by omega, fun j hj _ => by have hj0 : j = 0 := (by omega); subst hj0; unfold alB; simp⟩
  · ((repeat' (first | exact trivial | apply And.intro)) <;> (first | rfl | exact succ8 (by omega) | exact succ64 (by omega) | exact CapOk.fn (by assumption) _ _ | exact vintS (by omega) | exact vintS (by rw [w64 (by omega) (by omega)]; omega) | exact vintS (by rw [w8 (by omega) (by omega)]; omega) | exact vslcS (by omega) | exact vslcS (by simp)))
  · ((repeat' (first | exact trivial | apply And.intro)) <;> ((first | refine ⟨_, _, rfl, rfl, ?_⟩ ); rfl))
  rintro i ⟨hi, hal⟩
  conv => whnf
  repeat (first | (refine And.intro (by first | exact Nat.le_of_ble_eq_true rfl | exact rfl | decide | omega | (simp [splice]; done) | (constructor <;> omega) | (simp [splice]; omega)) ?_; conv => whnf) )
  cases h3 : decide ((i : Int) < (rs.length : Int))
  · have hin : rs.length ≤ i := by have : ¬ (i : Int) < (rs.length : Int) := by simpa using h3
                                   omega
    rw [show casI rs = 0 by unfold casI; rw [if_neg h', all_rx fun j hj => hal j (by omega) hj]; rfl]
    conv => whnf
    repeat (first | (refine And.intro (by first | exact Nat.le_of_ble_eq_true rfl | exact rfl | decide | omega | (simp [splice]; done) | (constructor <;> omega) | (simp [splice]; omega)) ?_; conv => whnf) )
    first | refine ⟨rfl, _, rfl, ?_⟩ | refine ⟨_, rfl, ?_⟩
    rfl
  have hin : i < rs.length := by simpa using h3
  have hm : (i + 1) * 67 ≤ rs.length * 67 := Nat.mul_le_mul_right _ hin
  have no : alB (rx rs 0) (rx rs i) = false → casI rs = 4 := fun hf => by unfold casI; rw [if_neg h', rx_no hin hf]; rfl
  have ne : ∀ x y : Int, (x != y) = !(y == x) := fun x y => by rw [Bool.eq_iff_iff]; simp; omega
  conv => whnf
  repeat (first | (refine And.intro (by first | exact Nat.le_of_ble_eq_true rfl | exact rfl | decide | omega | (simp [splice]; done) | (constructor <;> omega) | (simp [splice]; omega)) ?_; conv => whnf) )
  refine optK_of (roofsW hin) ?_
  conv => whnf
  repeat (first | (refine And.intro (by first | exact Nat.le_of_ble_eq_true rfl | exact rfl | decide | omega | (simp [splice]; done) | (constructor <;> omega) | (simp [splice]; omega)) ?_; conv => whnf) )
  refine optK_of (roofsW0 (by omega)) ?_
  conv => whnf
  repeat (first | (refine And.intro (by first | exact Nat.le_of_ble_eq_true rfl | exact rfl | decide | omega | (simp [splice]; done) | (constructor <;> omega) | (simp [splice]; omega)) ?_; conv => whnf) )
  rw [ne (rx rs i).w]
  cases h4 : ((rx rs 0).w == (rx rs i).w)
  · rw [no (by unfold alB; rw [h4]; rfl)]
    conv => whnf
    repeat (first | (refine And.intro (by first | exact Nat.le_of_ble_eq_true rfl | exact rfl | decide | omega | (simp [splice]; done) | (constructor <;> omega) | (simp [splice]; omega)) ?_; conv => whnf) )
    first | refine ⟨rfl, _, rfl, ?_⟩ | refine ⟨_, rfl, ?_⟩
    rfl
  conv => whnf
  repeat (first | (refine And.intro (by first | exact Nat.le_of_ble_eq_true rfl | exact rfl | decide | omega | (simp [splice]; done) | (constructor <;> omega) | (simp [splice]; omega)) ?_; conv => whnf) )
  refine optK_of (roofsH hin) ?_
  conv => whnf
  repeat (first | (refine And.intro (by first | exact Nat.le_of_ble_eq_true rfl | exact rfl | decide | omega | (simp [splice]; done) | (constructor <;> omega) | (simp [splice]; omega)) ?_; conv => whnf) )
  refine optK_of (roofsH0 (by omega)) ?_
  conv => whnf
  repeat (first | (refine And.intro (by first | exact Nat.le_of_ble_eq_true rfl | exact rfl | decide | omega | (simp [splice]; done) | (constructor <;> omega) | (simp [splice]; omega)) ?_; conv => whnf) )
  rw [ne (rx rs i).h]
  cases h5 : ((rx rs 0).h == (rx rs i).h)
  · rw [no (by unfold alB; rw [h4, h5]; rfl)]
    conv => whnf
    repeat (first | (refine And.intro (by first | exact Nat.le_of_ble_eq_true rfl | exact rfl | decide | omega | (simp [splice]; done) | (constructor <;> omega) | (simp [splice]; omega)) ?_; conv => whnf) )
    first | refine ⟨rfl, _, rfl, ?_⟩ | refine ⟨_, rfl, ?_⟩
    rfl
  conv => whnf
  repeat (first | (refine And.intro (by first | exact Nat.le_of_ble_eq_true rfl | exact rfl | decide | omega | (simp [splice]; done) | (constructor <;> omega) | (simp [splice]; omega)) ?_; conv => whnf) )
  refine optK_of (roofsS hin) ?_
  conv => whnf
  repeat (first | (refine And.intro (by first | exact Nat.le_of_ble_eq_true rfl | exact rfl | decide | omega | (simp [splice]; done) | (constructor <;> omega) | (simp [splice]; omega)) ?_; conv => whnf) )
  refine optK_of (roofsS0 (by omega)) ?_
  conv => whnf
  repeat (first | (refine And.intro (by first | exact Nat.le_of_ble_eq_true rfl | exact rfl | decide | omega | (simp [splice]; done) | (constructor <;> omega) | (simp [splice]; omega)) ?_; conv => whnf) )
  rw [ne (rx rs i).s]
  cases h6 : ((rx rs 0).s == (rx rs i).s)
  · rw [no (by unfold alB; rw [h4, h5, h6]; rfl)]
    conv => whnf
    repeat (first | (refine And.intro (by first | exact Nat.le_of_ble_eq_true rfl | exact rfl | decide | omega | (simp [splice]; done) | (constructor <;> omega) | (simp [splice]; omega)) ?_; conv => whnf) )
    first | refine ⟨rfl, _, rfl, ?_⟩ | refine ⟨_, rfl, ?_⟩
    rfl
  have hnx : ∀ j, j < i + 1 → j < rs.length → alB (rx rs 0) (rx rs j) = true := fun j hj hjl => by
    by_cases hji : j = i
    · subst hji; unfold alB; rw [h4, h5, h6]; rfl
    · exact hal j (by omega) hjl
  conv => whnf
  repeat (first | (refine And.intro (by first | exact Nat.le_of_ble_eq_true rfl | exact rfl | decide | omega | (simp [splice]; done) | (constructor <;> omega) | (simp [splice]; omega)) ?_; conv => whnf) )
  refine ⟨i + 1, ?_, ?_, sim_of (rn := []) rfl ?_ ?_⟩
  · (dsimp only; omega)
  · exact ⟨by omega, hnx⟩
  · ((repeat' (first | exact trivial | apply And.intro)) <;> (first | rfl | exact succ8 (by omega) | exact succ64 (by omega) | exact CapOk.fn (by assumption) _ _ | exact vintS (by omega) | exact vintS (by rw [w64 (by omega) (by omega)]; omega) | exact vintS (by rw [w8 (by omega) (by omega)]; omega) | exact vslcS (by omega) | exact vslcS (by simp)))
  · ((repeat' (first | exact trivial | apply And.intro)) <;> ((first | refine ⟨_, _, rfl, rfl, ?_⟩ ); rfl))
end Go.Proofs.Ytndlknhakdadjaa
/- Contracts: numbers for roofs that drip alike, both sides. -/
set_option linter.unusedVariables false
set_option linter.unusedSimpArgs false
namespace Go.V
/-- Whether two tables are one. -/
def eqD (f g : Nat → Nat → Int) : Bool := (List.range 136).all fun k => f (k / 17) (k % 17) == g (k / 17) (k % 17)
theorem eqD_iff {f g : Nat → Nat → Int} : eqD f g = true ↔ dripC f = dripC g := by
  unfold eqD
  rw [List.all_eq_true]
  constructor
  · intro h
    unfold dripC
    exact tab_congr fun k hk => by
      have := h k (by simpa using hk)
      rw [show f (k / 17) (k % 17) = g (k / 17) (k % 17) by simpa using this]
  · intro h k hk
    have hk' : k < 136 := by simpa using hk
    have h1 : (dripC f)[k]? = (dripC g)[k]? := by rw [h]
    unfold dripC at h1
    rw [tab_get hk', tab_get hk'] at h1
    simp only [Option.some.injEq, Value.int.injEq, true_and] at h1
    simpa using h1
theorem eqD_comm (f g : Nat → Nat → Int) : eqD f g = eqD g f := by
  rw [Bool.eq_iff_iff, eqD_iff, eqD_iff]; exact ⟨Eq.symm, Eq.symm⟩
abbrev Tb := Nat → Nat → Int
def zT : Tb := fun _ _ => 0
def dx (ds : List Tb) (i : Nat) : Tb := ds.getD i zT
@[irreducible] def drsC (ds : List Tb) : List Value := ds.flatMap dripC
theorem drsC_def (ds : List Tb) : drsC ds = ds.flatMap dripC := by unfold drsC; rfl
@[simp] theorem drsC_len (ds : List Tb) : (drsC ds).length = ds.length * 136 := by rw [drsC_def, fm_len dripC_len]
theorem drsC_nil : drsC [] = [] := by simp [drsC_def]
theorem drsC_snoc (ds : List Tb) (d : Tb) : drsC (ds ++ [d]) = drsC ds ++ dripC d := by simp [drsC_def]
theorem drs_sub {ds : List Tb} {i o : Nat} (ho : o = i * 136) (h : i < ds.length) : ((drsC ds).drop o).take 136 = dripC (dx ds i) := by
  subst ho; rw [drsC_def]; exact fm_sub (d := zT) dripC_len h
theorem vdrs {ds : List Tb} {i o : Nat} (ho : o = i * 136) (h : i < ds.length) : D.v (.agg ⟨((drsC ds).drop o).take 136⟩) = dripD (dx ds i) := by rw [drs_sub ho h]; rfl
def drsD (m : Bool) (ds : List Tb) : D := .row m 136 (.v (.agg ⟨drsC ds⟩)) ds.length
/-- Where a table is met first. -/
def gIx (ds : List Tb) (f : Tb) : Int := idxX (eqD f) zT ds
def gNo (ds : List Tb) (f : Tb) : Nat := if gIx ds f < 0 then ds.length else (gIx ds f).toNat
def AllT (ds : List Tb) : Prop := ∀ i, i < ds.length → InM (dx ds i)
theorem gIx_range (ds : List Tb) (f : Tb) : gIx ds f = -1 ∨ (0 ≤ gIx ds f ∧ gIx ds f < ds.length) := by
  unfold gIx idxX
  cases h : (List.range ds.length).find? fun i => eqD f (ds.getD i zT) with
  | none => left; rfl
  | some x => right; have := List.mem_of_find?_eq_some h; simp at this ⊢; exact this
theorem gNo_le (ds : List Tb) (f : Tb) : gNo ds f ≤ ds.length := by
  have := gIx_range ds f
  unfold gNo; split <;> omega
/-- The tables that were met, and the numbers of the first i roofs. -/
def snL (F : Nat → Tb) : Nat → List Tb
  | 0 => []
  | i + 1 => if gIx (snL F i) (F i) < 0 then snL F i ++ [F i] else snL F i
def goL (F : Nat → Tb) (n : Nat) : List Int := qL (fun i => (gNo (snL F i) (F i) : Nat)) n
theorem snL_len (F : Nat → Tb) : ∀ n, (snL F n).length ≤ n
  | 0 => by simp [snL]
  | n + 1 => by
    have := snL_len F n
    simp only [snL]
    split
    · simp; omega
    · omega
theorem snL_yes {F : Nat → Tb} {i : Nat} (h : gIx (snL F i) (F i) < 0) : snL F (i + 1) = snL F i ++ [F i] := by simp only [snL, if_pos h]
theorem snL_no {F : Nat → Tb} {i : Nat} (h : ¬ gIx (snL F i) (F i) < 0) : snL F (i + 1) = snL F i := by simp only [snL, if_neg h]
theorem dx_snoc {ds : List Tb} {d : Tb} {i : Nat} (h : i < (ds ++ [d]).length) : dx (ds ++ [d]) i = if i < ds.length then dx ds i else d := by
  unfold dx
  rw [List.getD_eq_getElem?_getD, List.getD_eq_getElem?_getD, List.getElem?_append]
  split
  · rfl
  · have : i - ds.length = 0 := by simp at h; omega
    rw [this]; rfl
theorem snL_in {F : Nat → Tb} (h : ∀ i, InM (F i)) : ∀ n, AllT (snL F n)
  | 0 => fun i hi => by simp [snL] at hi
  | n + 1 => by
    have ih := snL_in h n
    by_cases hg : gIx (snL F n) (F n) < 0
    · rw [snL_yes hg]
      intro i hi
      rw [dx_snoc hi]
      split
      · exact ih i (by assumption)
      · exact h n
    · rw [snL_no hg]; exact ih
theorem goL_next (F : Nat → Tb) (n : Nat) : goL F (n + 1) = goL F n ++ [((gNo (snL F n) (F n) : Nat) : Int)] := qL_next _ n
@[simp] theorem goL_len (F : Nat → Tb) (n : Nat) : (goL F n).length = n := qL_len _ n
theorem nth_part {a x y : D} : ∀ (q : Nat) (c : D), nth [a, x] q = some c → ∃ c0, nth [a, y] q = some c0 ∧ (c0 = c ∨ (c0 = y ∧ c = x))
  | 0, c, h => ⟨a, rfl, .inl (by simpa [nth] using h)⟩
  | 1, c, h => ⟨y, rfl, .inr ⟨rfl, by simpa [nth] using h.symm⟩⟩
  | n + 2, c, h => by simp [nth] at h
theorem cond_part {a x y : D} {c : D} {b : Bool} {q : Nat} (hc : (bif b then nth [a, x] q else none) = some c) : ∃ c0, (bif b then nth [a, y] q else none) = some c0 ∧ (c0 = c ∨ (c0 = y ∧ c = x)) := by
  cases b
  · cases hc
  · exact nth_part q c hc
theorem lentM_part {a x y : D} {id : Id} {c : D} (hc : lentM [a, x] id = some c) : ∃ c0, lentM [a, y] id = some c0 ∧ (c0 = c ∨ (c0 = y ∧ c = x)) := by
  unfold lentM at hc ⊢
  exact cond_part hc
/-- A nil slice in a variable, told as a part. -/
theorem Lent.part {w : World} {l0 : Loc} {a : D} (h : Lent w l0 [a, .v (.agg ⟨[.slice none 0 0]⟩)]) : Lent w l0 [a, .agg [.v (.slice none 0 0)]] := by
  have key : ∀ id c, lentM [a, .agg [.v (.slice none 0 0)]] id = some c → ∃ c0, lentM [a, .v (.agg ⟨[.slice none 0 0]⟩)] id = some c0 ∧ ((c0 = c) ∨ (c0 = .v (.agg ⟨[.slice none 0 0]⟩) ∧ c = .agg [.v (.slice none 0 0)])) :=
    fun id c hc => lentM_part hc
  refine ⟨h.dom, fun id c hc => ?_, h.range, fun id id' c c' b n n' h1 h2 h3 h4 => ?_⟩
  · obtain ⟨c0, g1, g2⟩ := key id c hc
    obtain ⟨l, xs, q1, q2, q3⟩ := h.mem id c0 g1
    rcases g2 with rfl | ⟨rfl, rfl⟩
    · exact ⟨l, xs, q1, q2, q3⟩
    · refine ⟨l, xs, q1, ?_, q3⟩
      simp only [Rep] at q2
      obtain ⟨q2, _⟩ := q2
      simp only [Value.agg.injEq] at q2
      cases q2
      simp only [Rep, RepL]
      exact ⟨_, rfl, ⟨_, _, rfl, ⟨rfl, rfl⟩, rfl⟩, rfl⟩
  · obtain ⟨c0, g1, _⟩ := key id c h1
    obtain ⟨c0', g1', _⟩ := key id' c' h2
    exact h.inj id id' _ _ b n n' g1 g1' h3 h4
theorem SatM.part {P : Program} {g : FuncId} {args : List D} {a res : D} {ms' : List (Option D)} {news : List D} (h : SatM P g args [a, .agg [.v (.slice none 0 0)]] res ms' news) : SatM P g args [a, .v (.agg ⟨[.slice none 0 0]⟩)] res ms' news :=
  ⟨h.1, fun w vs l0 hl hr => h.2 w vs l0 hl.part hr⟩
end Go.V
namespace Go.Proofs.Ytndlknhakdadjaa
open Go.V
theorem eqAgg_drip {f g : Tb} {xs ys : List Value} (h1 : xs = dripC f) (h2 : ys = dripC g) (hf : InM f) (hg : InM g) : EqAgg Try.prog 193 xs ys (eqD f g) := by
  subst h1 h2
  have fit : ∀ h : Tb, InM h → ∀ (i : Nat) (x : Value), (dripC h)[i]? = some x → ∃ z, x = Value.int .i32 z ∧ (Lit.int .i32 z).wf = true := by
    intro h hh i x hx
    unfold dripC at hx
    by_cases hi : i < 136
    · rw [tab_get hi] at hx
      simp only [Option.some.injEq] at hx
      subst hx
      refine ⟨_, rfl, ?_⟩
      have := hh (i / 17) (i % 17) (by omega)
      simp [Lit.wf, IntKind.min, IntKind.max, IntKind.bits, IntKind.signed]
      omega
    · rw [tab_none (by omega)] at hx; cases hx
  have cells : ∀ h : Tb, InM h → ∀ x ∈ dripC h, IntCell x := by
    intro h hh x hx
    obtain ⟨i, hi⟩ := List.getElem?_of_mem hx
    obtain ⟨z, rfl, hz⟩ := fit h hh i x hi
    exact hz
  have hc : Program.cellsOf Try.prog 193 = 136 := by kernel_rfl
  have hc2 : Program.cellsOf Try.prog 52 = 17 := by kernel_rfl
  have fm : ∀ h : Tb, Value.formed Try.prog 193 (.agg ⟨dripC h⟩) = true := by
    intro h
    unfold Value.formed
    rw [Try.underlying193]
    simp [hc]
  have kl : ∀ h : Tb, InM h → Program.keyLits Try.prog 3 193 (dripC h) = some (litsOf (dripC h)) := fun h hh => by
    refine keyLits_array (d := 2) Try.underlying193 (by rw [hc, hc2]) (by rw [hc2]; simp) fun i hi => ?_
    rw [hc2]
    have e := drip_row (f := h) (i := i) rfl hi
    rw [e]
    refine keyLits_ints (d := 0) Try.underlying52 Try.underlying21 (by kernel_rfl) hc2 (by simp) fun j x hx => ?_
    rw [← e, List.getElem?_take] at hx
    split at hx
    · rw [List.getElem?_drop] at hx; exact fit h hh _ x hx
    · cases hx
  exact eqAgg_of (m := 3) (by omega) (by kernel_rfl) (by kernel_rfl) (fm f) (fm g) (kl f hf) (kl g hg) (cells f hf) (cells g hg) eqD_iff
theorem indexT_sat (ds : List Tb) (hl : ds.length ≤ 1048576) (hds : AllT ds) (f : Tb) (hf : InM f) (m : Bool) : Sat Try.prog 157 [drsD m ds, dripD f] (.v (.int .i64 (gIx ds f))) := by
  refine sat_of_wp hMix tOk Try.func157 rfl rfl Try.ntmps157 rfl rfl Try.results157 (by kernel_rfl) ?_
  conv => whnf
  repeat (first | (refine And.intro (by first | exact Nat.le_of_ble_eq_true rfl | exact rfl | decide | omega | (simp [splice]; done) | (constructor <;> omega) | (simp [splice]; omega)) ?_; conv => whnf) )
  refine loop_rule (α := Nat) (fun i => [(0, drsD m ds), (3, .ptr (3, 0, 0) 0), (7, .v (.int .i64 ds.length)), (8, .v (.int .i64 i))]) (fun i => [((3, 0, 0), dripD f)]) (fun i => i ≤ ds.length ∧ ∀ j, j < i → eqD f (dx ds j) = false) (fun i => ds.length - i) (0) ?_ (sim_of (rn := [((3, 0, 0), (3, 0, 0))]) rfl ?_ ?_) ?_
  · exact ⟨Nat.zero_le _, fun j hj => by omega⟩
  · ((repeat' (first | exact trivial | apply And.intro)) <;> (first | rfl | exact succ8 (by omega) | exact succ64 (by omega) | exact CapOk.fn (by assumption) _ _ | exact vintS (by omega) | exact vintS (by rw [w64 (by omega) (by omega)]; omega) | exact vintS (by rw [w8 (by omega) (by omega)]; omega) | exact vslcS (by omega) | exact vslcS (by simp)))
  · ((repeat' (first | exact trivial | apply And.intro)) <;> ((first | refine ⟨_, _, rfl, rfl, ?_⟩ ); rfl))
  rintro i ⟨hi, hall⟩
  conv => whnf
  repeat (first | (refine And.intro (by first | exact Nat.le_of_ble_eq_true rfl | exact rfl | decide | omega | (simp [splice]; done) | (constructor <;> omega) | (simp [splice]; omega)) ?_; conv => whnf) )
  cases h : decide ((i : Int) < (ds.length : Int))
  · have hin : i = ds.length := by simp at h; omega
    subst hin
    rw [show gIx ds f = -1 from idxX_none hall]
    conv => whnf
    repeat (first | (refine And.intro (by first | exact Nat.le_of_ble_eq_true rfl | exact rfl | decide | omega | (simp [splice]; done) | (constructor <;> omega) | (simp [splice]; omega)) ?_; conv => whnf) )
    first | refine ⟨rfl, _, rfl, ?_⟩ | refine ⟨_, rfl, ?_⟩
    rfl
  have hin : i < ds.length := by simpa using h
  have hm : (i + 1) * 136 ≤ ds.length * 136 := Nat.mul_le_mul_right _ hin
  conv => whnf
  repeat (first | (refine And.intro (by first | exact Nat.le_of_ble_eq_true rfl | exact rfl | decide | omega | (simp [splice]; done) | (constructor <;> omega) | (simp [splice]; omega)) ?_; conv => whnf) )
  refine ⟨_, eqAgg_drip (take_drop0 (by simp)) (drs_sub (by simp) hin) hf (hds i hin), ?_⟩
  cases h5 : eqD f (dx ds i)
  · have hall' := below_succ (p := fun j => eqD f (dx ds j) = false) hall h5
    conv => whnf
    repeat (first | (refine And.intro (by first | exact Nat.le_of_ble_eq_true rfl | exact rfl | decide | omega | (simp [splice]; done) | (constructor <;> omega) | (simp [splice]; omega)) ?_; conv => whnf) )
    refine ⟨i + 1, ?_, ?_, sim_of (rn := [((3, 0, 0), (3, 0, 0))]) rfl ?_ ?_⟩
    · (dsimp only; omega)
    · exact ⟨by omega, hall'⟩
    · ((repeat' (first | exact trivial | apply And.intro)) <;> (first | rfl | exact succ8 (by omega) | exact succ64 (by omega) | exact CapOk.fn (by assumption) _ _ | exact vintS (by omega) | exact vintS (by rw [w64 (by omega) (by omega)]; omega) | exact vintS (by rw [w8 (by omega) (by omega)]; omega) | exact vslcS (by omega) | exact vslcS (by simp)))
    · ((repeat' (first | exact trivial | apply And.intro)) <;> ((first | refine ⟨_, _, rfl, rfl, ?_⟩ ); rfl))
  rw [show gIx ds f = i from idxX_some hin h5 hall]
  conv => whnf
  repeat (first | (refine And.intro (by first | exact Nat.le_of_ble_eq_true rfl | exact rfl | decide | omega | (simp [splice]; done) | (constructor <;> omega) | (simp [splice]; omega)) ?_; conv => whnf) )
  first | refine ⟨rfl, _, rfl, ?_⟩ | refine ⟨_, rfl, ?_⟩
  rfl
end Go.Proofs.Ytndlknhakdadjaa
/- Contracts: numbers for roofs that drip alike, both sides, continued. -/
set_option linter.unusedVariables false
set_option linter.unusedSimpArgs false
namespace Go.V
/-- One part that fills a slice of one element. -/
theorem fill1 {s : St} {a zs : List Value} {n : Nat} {x : Operand} (hx : s.ev x = .v (.agg ⟨a⟩)) (ha : a.length = n) (hz : zs.length = n) :
    fillD (fun i => some (i * n, n)) (rep 1 (List.map D.v zs)) (evParts s #[(0, x)]) = some (List.map D.v a) := by
  have e : rep 1 (List.map D.v zs) = List.map D.v zs := by unfold rep; simp
  have ep : evParts s #[(0, x)] = [(0, .v (.agg ⟨a⟩))] := by unfold evParts; simp [hx]
  have h1 : (a.length == n) = true := by simpa using ha
  have h2 : Nat.ble (0 * n + n) (List.map D.v zs).length = true := by rw [Nat.ble_eq]; simp [hz]
  rw [e, ep]
  simp only [fillD, h1, h2, Bool.and_self, cond_true]
  congr 1
  rw [Nat.zero_mul]
  unfold splice
  simp [ha, ← hz]
theorem mkAgg_map (l : List Value) : mkAgg (List.map D.v l) = .v (.agg ⟨l⟩) := by unfold mkAgg; rw [plain_map]
def Fr (rs : List Roof) (w : Nat → Int) (i : Nat) : Tb := dR (rx rs i) w
end Go.V
namespace Go.Proofs.Ytndlknhakdadjaa
open Go.V
theorem groups1_old (r : Roof) (hr : r.In) (hb : Rb r) (w : Nat → Int) (hw : W1 w) (ds : List Tb) (hl : ds.length ≤ 1000) (hds : AllT ds) (hg : ¬ gIx ds (dR r w) < 0) :
    SatM Try.prog 155 [roofD r, .ptr (lentId 0) 0, .ptr (lentId 1) 0] [raiD w, .agg [.slc true 136 (lentId 2) 0 ds.length], .v (.agg ⟨drsC ds⟩)] (.v (.int .i64 (gNo ds (dR r w) : Nat)))
      [some (raiD w), some (.agg [.slc true 136 (lentId 2) 0 ds.length]), some (.v (.agg ⟨drsC ds⟩))] [] := by
  have hrg := gIx_range ds (dR r w)
  have hn : ((gNo ds (dR r w) : Nat) : Int) = gIx ds (dR r w) := by unfold gNo; rw [if_neg hg]; omega
  rw [hn]
  refine satM_of_wp hMix tOk Try.func155 rfl rfl Try.ntmps155 rfl rfl Try.results155 (by kernel_rfl) ?_
  conv => whnf
  repeat (first | (refine And.intro (by first | exact Nat.le_of_ble_eq_true rfl | exact rfl | decide | omega | (simp [splice]; done) | (constructor <;> omega) | (simp [splice]; omega)) ?_; conv => whnf) )
  first | refine ⟨_, _, rfl, Sat.of_eq (run_sat r hr hb w hw) (by repeat (first | rfl | exact vfull (by first | (simp [splice]; done) | (simp [splice]; omega)) | exact rfull (by first | (simp [splice]; done) | (simp [splice]; omega)) | exact vdrs (by simp; done) (by omega) | exact vroofs (by simp; done) (by omega) | exact vsplice (by simp) (by simp) | refine ceq ?_ ?_ | refine Eq.trans (vsplice (by first | (simp; done) | (simp; omega)) (by first | (simp; done) | (simp; omega))) ?_)), ?_⟩ | refine .inl ⟨_, _, rfl, Sat.of_eq (run_sat r hr hb w hw) (by repeat (first | rfl | exact vfull (by first | (simp [splice]; done) | (simp [splice]; omega)) | exact rfull (by first | (simp [splice]; done) | (simp [splice]; omega)) | exact vdrs (by simp; done) (by omega) | exact vroofs (by simp; done) (by omega) | exact vsplice (by simp) (by simp) | refine ceq ?_ ?_ | refine Eq.trans (vsplice (by first | (simp; done) | (simp; omega)) (by first | (simp; done) | (simp; omega))) ?_)), ?_⟩
  conv => whnf
  repeat (first | (refine And.intro (by first | exact Nat.le_of_ble_eq_true rfl | exact rfl | decide | omega | (simp [splice]; done) | (constructor <;> omega) | (simp [splice]; omega)) ?_; conv => whnf) )
  refine .inr ⟨dripC (dR r w), ⟨rfl, by show 0 + 136 ≤ _; simp, flow_plain⟩, ?_⟩
  conv => whnf
  repeat (first | (refine And.intro (by first | exact Nat.le_of_ble_eq_true rfl | exact rfl | decide | omega | (simp [splice]; done) | (constructor <;> omega) | (simp [splice]; omega)) ?_; conv => whnf) )
  first | refine ⟨_, _, rfl, Sat.of_eq (indexT_sat ds (by omega) hds (dR r w) (dR_inM r hw) false) (by repeat (first | rfl | exact vfull (by first | (simp [splice]; done) | (simp [splice]; omega)) | exact rfull (by first | (simp [splice]; done) | (simp [splice]; omega)) | exact vdrs (by simp; done) (by omega) | exact vroofs (by simp; done) (by omega) | exact vsplice (by simp) (by simp) | refine ceq ?_ ?_ | refine Eq.trans (vsplice (by first | (simp; done) | (simp; omega)) (by first | (simp; done) | (simp; omega))) ?_)), ?_⟩ | refine .inl ⟨_, _, rfl, Sat.of_eq (indexT_sat ds (by omega) hds (dR r w) (dR_inM r hw) false) (by repeat (first | rfl | exact vfull (by first | (simp [splice]; done) | (simp [splice]; omega)) | exact rfull (by first | (simp [splice]; done) | (simp [splice]; omega)) | exact vdrs (by simp; done) (by omega) | exact vroofs (by simp; done) (by omega) | exact vsplice (by simp) (by simp) | refine ceq ?_ ?_ | refine Eq.trans (vsplice (by first | (simp; done) | (simp; omega)) (by first | (simp; done) | (simp; omega))) ?_)), ?_⟩
  conv => whnf
  repeat (first | (refine And.intro (by first | exact Nat.le_of_ble_eq_true rfl | exact rfl | decide | omega | (simp [splice]; done) | (constructor <;> omega) | (simp [splice]; omega)) ?_; conv => whnf) )
  rw [show decide (gIx ds (dR r w) < 0) = false by simpa using hg]
  conv => whnf
  repeat (first | (refine And.intro (by first | exact Nat.le_of_ble_eq_true rfl | exact rfl | decide | omega | (simp [splice]; done) | (constructor <;> omega) | (simp [splice]; omega)) ?_; conv => whnf) )
  refine ⟨[], _, rfl, rfl, rfl, ?_, ?_, rfl⟩
  · rfl
  ((repeat' (first | exact trivial | apply And.intro)) <;> (refine ⟨_, rfl, ?_⟩; first | rfl | (rfl)))
theorem groups1_new (r : Roof) (hr : r.In) (hb : Rb r) (w : Nat → Int) (hw : W1 w) (ds : List Tb) (hl : ds.length ≤ 1000) (hds : AllT ds) (hg : gIx ds (dR r w) < 0) :
    SatM Try.prog 155 [roofD r, .ptr (lentId 0) 0, .ptr (lentId 1) 0] [raiD w, .agg [.slc true 136 (lentId 2) 0 ds.length], .v (.agg ⟨drsC ds⟩)] (.v (.int .i64 (gNo ds (dR r w) : Nat)))
      [some (raiD w), some (.agg [.slc true 136 (0, 0, 0) 0 (ds.length + 1)]), none] [.v (.agg ⟨drsC (ds ++ [dR r w])⟩)] := by
  have hn : ((gNo ds (dR r w) : Nat) : Int) = ds.length := by unfold gNo; rw [if_pos hg]
  rw [hn]
  refine satM_of_wp hMix tOk Try.func155 rfl rfl Try.ntmps155 rfl rfl Try.results155 (by kernel_rfl) ?_
  conv => whnf
  repeat (first | (refine And.intro (by first | exact Nat.le_of_ble_eq_true rfl | exact rfl | decide | omega | (simp [splice]; done) | (constructor <;> omega) | (simp [splice]; omega)) ?_; conv => whnf) )
  first | refine ⟨_, _, rfl, Sat.of_eq (run_sat r hr hb w hw) (by repeat (first | rfl | exact vfull (by first | (simp [splice]; done) | (simp [splice]; omega)) | exact rfull (by first | (simp [splice]; done) | (simp [splice]; omega)) | exact vdrs (by simp; done) (by omega) | exact vroofs (by simp; done) (by omega) | exact vsplice (by simp) (by simp) | refine ceq ?_ ?_ | refine Eq.trans (vsplice (by first | (simp; done) | (simp; omega)) (by first | (simp; done) | (simp; omega))) ?_)), ?_⟩ | refine .inl ⟨_, _, rfl, Sat.of_eq (run_sat r hr hb w hw) (by repeat (first | rfl | exact vfull (by first | (simp [splice]; done) | (simp [splice]; omega)) | exact rfull (by first | (simp [splice]; done) | (simp [splice]; omega)) | exact vdrs (by simp; done) (by omega) | exact vroofs (by simp; done) (by omega) | exact vsplice (by simp) (by simp) | refine ceq ?_ ?_ | refine Eq.trans (vsplice (by first | (simp; done) | (simp; omega)) (by first | (simp; done) | (simp; omega))) ?_)), ?_⟩
  conv => whnf
  repeat (first | (refine And.intro (by first | exact Nat.le_of_ble_eq_true rfl | exact rfl | decide | omega | (simp [splice]; done) | (constructor <;> omega) | (simp [splice]; omega)) ?_; conv => whnf) )
  refine .inr ⟨dripC (dR r w), ⟨rfl, by show 0 + 136 ≤ _; simp, flow_plain⟩, ?_⟩
  conv => whnf
  repeat (first | (refine And.intro (by first | exact Nat.le_of_ble_eq_true rfl | exact rfl | decide | omega | (simp [splice]; done) | (constructor <;> omega) | (simp [splice]; omega)) ?_; conv => whnf) )
  first | refine ⟨_, _, rfl, Sat.of_eq (indexT_sat ds (by omega) hds (dR r w) (dR_inM r hw) false) (by repeat (first | rfl | exact vfull (by first | (simp [splice]; done) | (simp [splice]; omega)) | exact rfull (by first | (simp [splice]; done) | (simp [splice]; omega)) | exact vdrs (by simp; done) (by omega) | exact vroofs (by simp; done) (by omega) | exact vsplice (by simp) (by simp) | refine ceq ?_ ?_ | refine Eq.trans (vsplice (by first | (simp; done) | (simp; omega)) (by first | (simp; done) | (simp; omega))) ?_)), ?_⟩ | refine .inl ⟨_, _, rfl, Sat.of_eq (indexT_sat ds (by omega) hds (dR r w) (dR_inM r hw) false) (by repeat (first | rfl | exact vfull (by first | (simp [splice]; done) | (simp [splice]; omega)) | exact rfull (by first | (simp [splice]; done) | (simp [splice]; omega)) | exact vdrs (by simp; done) (by omega) | exact vroofs (by simp; done) (by omega) | exact vsplice (by simp) (by simp) | refine ceq ?_ ?_ | refine Eq.trans (vsplice (by first | (simp; done) | (simp; omega)) (by first | (simp; done) | (simp; omega))) ?_)), ?_⟩
  conv => whnf
  repeat (first | (refine And.intro (by first | exact Nat.le_of_ble_eq_true rfl | exact rfl | decide | omega | (simp [splice]; done) | (constructor <;> omega) | (simp [splice]; omega)) ?_; conv => whnf) )
  rw [show decide (gIx ds (dR r w) < 0) = true by simpa using hg]
  conv => whnf
  repeat (first | (refine And.intro (by first | exact Nat.le_of_ble_eq_true rfl | exact rfl | decide | omega | (simp [splice]; done) | (constructor <;> omega) | (simp [splice]; omega)) ?_; conv => whnf) )
  rw [fill1 (a := dripC (dR r w)) (s := _) ?hx (by simp) (by simp)]
  case hx => exact vsplice (by simp) (by simp)
  dsimp only
  rw [mkAgg_map]
  conv => whnf
  repeat (first | (refine And.intro (by first | exact Nat.le_of_ble_eq_true rfl | exact rfl | decide | omega | (simp [splice]; done) | (constructor <;> omega) | (simp [splice]; omega)) ?_; conv => whnf) )
  have e2 : drsC ds ++ ((dripC (dR r w)).drop 0).take (1 * 136) = drsC (ds ++ [dR r w]) := by rw [take_drop0 (by simp), drsC_snoc]
  refine ⟨[(21, 0, 0)], _, rfl, rfl, rfl, ?_, ?_, congrArg (fun l => some [D.v (.agg ⟨l⟩)]) e2⟩
  · rfl
  ((repeat' (first | exact trivial | apply And.intro)) <;> (refine ⟨_, rfl, ?_⟩; rfl))
theorem eachG_satM (rs : List Roof) (hl : rs.length ≤ 6) (hR : AllR rs) (hb : ∀ i, i < rs.length → Rb (rx rs i)) (w : Nat → Int) (hw' : 0 < rs.length → W1 w) :
    SatM Try.prog 154 [roofsD false rs, .fn (.func 155) [] [.ptr (lentId 0) 0, .ptr (lentId 1) 0]] [raiD w, .agg [.v (.slice none 0 0)]]
      (.slc true 1 (0, 0, 0) 0 rs.length) [some (raiD w), some (.agg [.slc true 136 (0, 0, 1) 0 (snL (Fr rs w) rs.length).length])] [.v (.agg ⟨intsC (goL (Fr rs w) rs.length)⟩), .v (.agg ⟨drsC (snL (Fr rs w) rs.length)⟩)] := by
  refine satM_of_wp hMix tOk Try.func154 rfl rfl Try.ntmps154 rfl rfl Try.results154 (by kernel_rfl) ?_
  conv => whnf
  repeat (first | (refine And.intro (by first | exact Nat.le_of_ble_eq_true rfl | exact rfl | decide | omega | (simp [splice]; done) | (constructor <;> omega) | (simp [splice]; omega)) ?_; conv => whnf) )
  refine loop_rule (α := Nat) (fun i => [(1, .fn (.func 155) [] [.ptr (lentId 0) 0, .ptr (lentId 1) 0]), (5, .slc true 1 (19, 0, 0) 0 i), (8, roofsD false rs), (9, .v (.int .i64 rs.length)), (10, .v (.int .i64 i))]) (fun i => [(lentId 0, raiD w), (lentId 1, .agg [.slc true 136 (17, 0, 0) 0 (snL (Fr rs w) i).length]), ((17, 0, 0), .v (.agg ⟨drsC (snL (Fr rs w) i)⟩)), ((19, 0, 0), .v (.agg ⟨intsC (goL (Fr rs w) i)⟩))]) (fun i => i ≤ rs.length) (fun i => rs.length - i) (0) ?_ (sim_of (rn := [((17, 0, 0), nilId), ((19, 0, 0), nilId)]) rfl ?_ ?_) ?_
  · first | omega | (dsimp only; omega) | ((repeat' apply And.intro) <;> omega) | (dsimp only; (repeat' apply And.intro) <;> omega) | trivial
  · ((repeat' (first | exact trivial | apply And.intro)) <;> (first | rfl | exact succ8 (by omega) | exact succ64 (by omega) | exact CapOk.fn (by assumption) _ _ | exact vintS (by omega) | exact vintS (by rw [w64 (by omega) (by omega)]; omega) | exact vintS (by rw [w8 (by omega) (by omega)]; omega) | exact vslcS (by omega) | exact vslcS (by simp)))
  · ((repeat' (first | exact trivial | apply And.intro)) <;> ((first | refine ⟨_, _, rfl, rfl, ?_⟩ ); first | rfl | (first | exact cset drsC_nil.symm | exact cset (show [] = intsC [] from intsC_nil.symm))))
  intro i hi
  have hsl := snL_len (Fr rs w) i
  have hgl := goL_len (Fr rs w) i
  conv => whnf
  repeat (first | (refine And.intro (by first | exact Nat.le_of_ble_eq_true rfl | exact rfl | decide | omega | (simp [splice]; done) | (constructor <;> omega) | (simp [splice]; omega)) ?_; conv => whnf) )
  cases h : decide ((i : Int) < (rs.length : Int))
  · have hin : i = rs.length := by simp at h; omega
    subst hin
    conv => whnf
    repeat (first | (refine And.intro (by first | exact Nat.le_of_ble_eq_true rfl | exact rfl | decide | omega | (simp [splice]; done) | (constructor <;> omega) | (simp [splice]; omega)) ?_; conv => whnf) )
    refine ⟨[(19, 0, 0), (17, 0, 0)], _, rfl, rfl, rfl, ?_, ?_, rfl⟩
    · rfl
    ((repeat' (first | exact trivial | apply And.intro)) <;> (refine ⟨_, rfl, ?_⟩; rfl))
  have hin' : i < rs.length := by simpa using h
  have hw := hw' (by omega)
  have hin : ∀ n, AllT (snL (Fr rs w) n) := snL_in fun i => dR_inM (rx rs i) hw
  have hm : (i + 1) * 67 ≤ rs.length * 67 := Nat.mul_le_mul_right _ hin'
  have eg : intsC (goL (Fr rs w) i) ++ [.int .i64 (gNo (snL (Fr rs w) i) (Fr rs w i) : Nat)] = intsC (goL (Fr rs w) (i + 1)) := by rw [goL_next, intsC_append, intsC_one]
  conv => whnf
  repeat (first | (refine And.intro (by first | exact Nat.le_of_ble_eq_true rfl | exact rfl | decide | omega | (simp [splice]; done) | (constructor <;> omega) | (simp [splice]; omega)) ?_; conv => whnf) )
  by_cases hg : gIx (snL (Fr rs w) i) (Fr rs w i) < 0
  · have e3 : snL (Fr rs w) (i + 1) = snL (Fr rs w) i ++ [Fr rs w i] := snL_yes hg
    first | refine ⟨[(lentId 0), (lentId 1), (17, 0, 0)], _, _, _, _, _, _, _, _, rfl, rfl, rfl, rfl, (SatM.of_eq (groups1_new (rx rs i) (hR i hin') (hb i hin') w hw (snL (Fr rs w) i) (by omega) (hin i) hg) (by repeat (first | rfl | exact vfull (by first | (simp [splice]; done) | (simp [splice]; omega)) | exact rfull (by first | (simp [splice]; done) | (simp [splice]; omega)) | exact vdrs (by simp; done) (by omega) | exact vroofs (by simp; done) (by omega) | exact vsplice (by simp) (by simp) | refine ceq ?_ ?_ | refine Eq.trans (vsplice (by first | (simp; done) | (simp; omega)) (by first | (simp; done) | (simp; omega))) ?_)) (by repeat (first | rfl | exact vfull (by first | (simp [splice]; done) | (simp [splice]; omega)) | exact rfull (by first | (simp [splice]; done) | (simp [splice]; omega)) | exact vdrs (by simp; done) (by omega) | exact vroofs (by simp; done) (by omega) | exact vsplice (by simp) (by simp) | refine ceq ?_ ?_ | refine Eq.trans (vsplice (by first | (simp; done) | (simp; omega)) (by first | (simp; done) | (simp; omega))) ?_))), rfl, rfl, rfl, rfl, ?_⟩ | refine .inr ⟨[(lentId 0), (lentId 1), (17, 0, 0)], _, _, _, _, _, _, _, _, rfl, rfl, rfl, rfl, (SatM.of_eq (groups1_new (rx rs i) (hR i hin') (hb i hin') w hw (snL (Fr rs w) i) (by omega) (hin i) hg) (by repeat (first | rfl | exact vfull (by first | (simp [splice]; done) | (simp [splice]; omega)) | exact rfull (by first | (simp [splice]; done) | (simp [splice]; omega)) | exact vdrs (by simp; done) (by omega) | exact vroofs (by simp; done) (by omega) | exact vsplice (by simp) (by simp) | refine ceq ?_ ?_ | refine Eq.trans (vsplice (by first | (simp; done) | (simp; omega)) (by first | (simp; done) | (simp; omega))) ?_)) (by repeat (first | rfl | exact vfull (by first | (simp [splice]; done) | (simp [splice]; omega)) | exact rfull (by first | (simp [splice]; done) | (simp [splice]; omega)) | exact vdrs (by simp; done) (by omega) | exact vroofs (by simp; done) (by omega) | exact vsplice (by simp) (by simp) | refine ceq ?_ ?_ | refine Eq.trans (vsplice (by first | (simp; done) | (simp; omega)) (by first | (simp; done) | (simp; omega))) ?_))), rfl, rfl, rfl, rfl, ?_⟩ | refine ⟨[(lentId 0), (lentId 1), (17, 0, 0)], _, _, _, _, _, rfl, rfl, rfl, rfl, (SatM.of_eq (groups1_new (rx rs i) (hR i hin') (hb i hin') w hw (snL (Fr rs w) i) (by omega) (hin i) hg) (by repeat (first | rfl | exact vfull (by first | (simp [splice]; done) | (simp [splice]; omega)) | exact rfull (by first | (simp [splice]; done) | (simp [splice]; omega)) | exact vdrs (by simp; done) (by omega) | exact vroofs (by simp; done) (by omega) | exact vsplice (by simp) (by simp) | refine ceq ?_ ?_ | refine Eq.trans (vsplice (by first | (simp; done) | (simp; omega)) (by first | (simp; done) | (simp; omega))) ?_)) (by repeat (first | rfl | exact vfull (by first | (simp [splice]; done) | (simp [splice]; omega)) | exact rfull (by first | (simp [splice]; done) | (simp [splice]; omega)) | exact vdrs (by simp; done) (by omega) | exact vroofs (by simp; done) (by omega) | exact vsplice (by simp) (by simp) | refine ceq ?_ ?_ | refine Eq.trans (vsplice (by first | (simp; done) | (simp; omega)) (by first | (simp; done) | (simp; omega))) ?_))), rfl, rfl, ?_⟩
    conv => whnf
    repeat (first | (refine And.intro (by first | exact Nat.le_of_ble_eq_true rfl | exact rfl | decide | omega | (simp [splice]; done) | (constructor <;> omega) | (simp [splice]; omega)) ?_; conv => whnf) )
    refine ⟨i + 1, ?_, ?_, sim_of (rn := [((17, 0, 0), (17, 1, 0)), ((19, 0, 0), (19, 1, 0))]) rfl ?_ ?_⟩
    · (dsimp only; omega)
    · first | omega | (dsimp only; omega) | ((repeat' apply And.intro) <;> omega) | (dsimp only; (repeat' apply And.intro) <;> omega) | trivial
    · ((repeat' (first | exact trivial | apply And.intro)) <;> (first | rfl | exact succ8 (by omega) | exact succ64 (by omega) | exact CapOk.fn (by assumption) _ _ | exact vintS (by omega) | exact vintS (by rw [w64 (by omega) (by omega)]; omega) | exact vintS (by rw [w8 (by omega) (by omega)]; omega) | exact vslcS (by omega) | exact vslcS (by simp)))
    · ((repeat' (first | exact trivial | apply And.intro)) <;> ((first | refine ⟨_, _, rfl, rfl, ?_⟩ ); first | rfl | (first | exact cset eg | (rw [e3, List.length_append]; rfl) | (rw [e3]; rfl))))
  · have e3 : snL (Fr rs w) (i + 1) = snL (Fr rs w) i := snL_no hg
    first | refine ⟨[(lentId 0), (lentId 1), (17, 0, 0)], _, _, _, _, _, _, _, _, rfl, rfl, rfl, rfl, (SatM.of_eq (groups1_old (rx rs i) (hR i hin') (hb i hin') w hw (snL (Fr rs w) i) (by omega) (hin i) hg) (by repeat (first | rfl | exact vfull (by first | (simp [splice]; done) | (simp [splice]; omega)) | exact rfull (by first | (simp [splice]; done) | (simp [splice]; omega)) | exact vdrs (by simp; done) (by omega) | exact vroofs (by simp; done) (by omega) | exact vsplice (by simp) (by simp) | refine ceq ?_ ?_ | refine Eq.trans (vsplice (by first | (simp; done) | (simp; omega)) (by first | (simp; done) | (simp; omega))) ?_)) (by repeat (first | rfl | exact vfull (by first | (simp [splice]; done) | (simp [splice]; omega)) | exact rfull (by first | (simp [splice]; done) | (simp [splice]; omega)) | exact vdrs (by simp; done) (by omega) | exact vroofs (by simp; done) (by omega) | exact vsplice (by simp) (by simp) | refine ceq ?_ ?_ | refine Eq.trans (vsplice (by first | (simp; done) | (simp; omega)) (by first | (simp; done) | (simp; omega))) ?_))), rfl, rfl, rfl, rfl, ?_⟩ | refine .inr ⟨[(lentId 0), (lentId 1), (17, 0, 0)], _, _, _, _, _, _, _, _, rfl, rfl, rfl, rfl, (SatM.of_eq (groups1_old (rx rs i) (hR i hin') (hb i hin') w hw (snL (Fr rs w) i) (by omega) (hin i) hg) (by repeat (first | rfl | exact vfull (by first | (simp [splice]; done) | (simp [splice]; omega)) | exact rfull (by first | (simp [splice]; done) | (simp [splice]; omega)) | exact vdrs (by simp; done) (by omega) | exact vroofs (by simp; done) (by omega) | exact vsplice (by simp) (by simp) | refine ceq ?_ ?_ | refine Eq.trans (vsplice (by first | (simp; done) | (simp; omega)) (by first | (simp; done) | (simp; omega))) ?_)) (by repeat (first | rfl | exact vfull (by first | (simp [splice]; done) | (simp [splice]; omega)) | exact rfull (by first | (simp [splice]; done) | (simp [splice]; omega)) | exact vdrs (by simp; done) (by omega) | exact vroofs (by simp; done) (by omega) | exact vsplice (by simp) (by simp) | refine ceq ?_ ?_ | refine Eq.trans (vsplice (by first | (simp; done) | (simp; omega)) (by first | (simp; done) | (simp; omega))) ?_))), rfl, rfl, rfl, rfl, ?_⟩ | refine ⟨[(lentId 0), (lentId 1), (17, 0, 0)], _, _, _, _, _, rfl, rfl, rfl, rfl, (SatM.of_eq (groups1_old (rx rs i) (hR i hin') (hb i hin') w hw (snL (Fr rs w) i) (by omega) (hin i) hg) (by repeat (first | rfl | exact vfull (by first | (simp [splice]; done) | (simp [splice]; omega)) | exact rfull (by first | (simp [splice]; done) | (simp [splice]; omega)) | exact vdrs (by simp; done) (by omega) | exact vroofs (by simp; done) (by omega) | exact vsplice (by simp) (by simp) | refine ceq ?_ ?_ | refine Eq.trans (vsplice (by first | (simp; done) | (simp; omega)) (by first | (simp; done) | (simp; omega))) ?_)) (by repeat (first | rfl | exact vfull (by first | (simp [splice]; done) | (simp [splice]; omega)) | exact rfull (by first | (simp [splice]; done) | (simp [splice]; omega)) | exact vdrs (by simp; done) (by omega) | exact vroofs (by simp; done) (by omega) | exact vsplice (by simp) (by simp) | refine ceq ?_ ?_ | refine Eq.trans (vsplice (by first | (simp; done) | (simp; omega)) (by first | (simp; done) | (simp; omega))) ?_))), rfl, rfl, ?_⟩
    conv => whnf
    repeat (first | (refine And.intro (by first | exact Nat.le_of_ble_eq_true rfl | exact rfl | decide | omega | (simp [splice]; done) | (constructor <;> omega) | (simp [splice]; omega)) ?_; conv => whnf) )
    refine ⟨i + 1, ?_, ?_, sim_of (rn := [((17, 0, 0), (17, 0, 0)), ((19, 0, 0), (19, 1, 0))]) rfl ?_ ?_⟩
    · (dsimp only; omega)
    · first | omega | (dsimp only; omega) | ((repeat' apply And.intro) <;> omega) | (dsimp only; (repeat' apply And.intro) <;> omega) | trivial
    · ((repeat' (first | exact trivial | apply And.intro)) <;> (first | rfl | exact succ8 (by omega) | exact succ64 (by omega) | exact CapOk.fn (by assumption) _ _ | exact vintS (by omega) | exact vintS (by rw [w64 (by omega) (by omega)]; omega) | exact vintS (by rw [w8 (by omega) (by omega)]; omega) | exact vslcS (by omega) | exact vslcS (by simp)))
    · ((repeat' (first | exact trivial | apply And.intro)) <;> ((first | refine ⟨_, _, rfl, rfl, ?_⟩ ); first | rfl | (first | exact cset eg | (rw [e3]; rfl))))
theorem groups_sat (rs : List Roof) (hl : rs.length ≤ 6) (hR : AllR rs) (hb : ∀ i, i < rs.length → Rb (rx rs i)) (w : Nat → Int) (hw' : 0 < rs.length → W1 w) : Sat Try.prog 97 [roofsD false rs, raiD w] (intsD true (goL (Fr rs w) rs.length)) := by
  refine sat_of_wp hMix tOk Try.func97 rfl rfl Try.ntmps97 rfl rfl Try.results97 (by kernel_rfl) ?_
  conv => whnf
  repeat (first | (refine And.intro (by first | exact Nat.le_of_ble_eq_true rfl | exact rfl | decide | omega | (simp [splice]; done) | (constructor <;> omega) | (simp [splice]; omega)) ?_; conv => whnf) )
  first | refine ⟨[(3, 0, 0), (5, 0, 0)], _, _, _, _, _, _, _, _, rfl, rfl, rfl, rfl, (SatM.of_eq ((eachG_satM rs hl hR hb w hw').part) (by repeat (first | rfl | exact vfull (by first | (simp [splice]; done) | (simp [splice]; omega)) | exact rfull (by first | (simp [splice]; done) | (simp [splice]; omega)) | exact vdrs (by simp; done) (by omega) | exact vroofs (by simp; done) (by omega) | exact vsplice (by simp) (by simp) | refine ceq ?_ ?_ | refine Eq.trans (vsplice (by first | (simp; done) | (simp; omega)) (by first | (simp; done) | (simp; omega))) ?_)) (by repeat (first | rfl | exact vfull (by first | (simp [splice]; done) | (simp [splice]; omega)) | exact rfull (by first | (simp [splice]; done) | (simp [splice]; omega)) | exact vdrs (by simp; done) (by omega) | exact vroofs (by simp; done) (by omega) | exact vsplice (by simp) (by simp) | refine ceq ?_ ?_ | refine Eq.trans (vsplice (by first | (simp; done) | (simp; omega)) (by first | (simp; done) | (simp; omega))) ?_))), rfl, rfl, rfl, rfl, ?_⟩ | refine .inr ⟨[(3, 0, 0), (5, 0, 0)], _, _, _, _, _, _, _, _, rfl, rfl, rfl, rfl, (SatM.of_eq ((eachG_satM rs hl hR hb w hw').part) (by repeat (first | rfl | exact vfull (by first | (simp [splice]; done) | (simp [splice]; omega)) | exact rfull (by first | (simp [splice]; done) | (simp [splice]; omega)) | exact vdrs (by simp; done) (by omega) | exact vroofs (by simp; done) (by omega) | exact vsplice (by simp) (by simp) | refine ceq ?_ ?_ | refine Eq.trans (vsplice (by first | (simp; done) | (simp; omega)) (by first | (simp; done) | (simp; omega))) ?_)) (by repeat (first | rfl | exact vfull (by first | (simp [splice]; done) | (simp [splice]; omega)) | exact rfull (by first | (simp [splice]; done) | (simp [splice]; omega)) | exact vdrs (by simp; done) (by omega) | exact vroofs (by simp; done) (by omega) | exact vsplice (by simp) (by simp) | refine ceq ?_ ?_ | refine Eq.trans (vsplice (by first | (simp; done) | (simp; omega)) (by first | (simp; done) | (simp; omega))) ?_))), rfl, rfl, rfl, rfl, ?_⟩ | refine ⟨[(3, 0, 0), (5, 0, 0)], _, _, _, _, _, rfl, rfl, rfl, rfl, (SatM.of_eq ((eachG_satM rs hl hR hb w hw').part) (by repeat (first | rfl | exact vfull (by first | (simp [splice]; done) | (simp [splice]; omega)) | exact rfull (by first | (simp [splice]; done) | (simp [splice]; omega)) | exact vdrs (by simp; done) (by omega) | exact vroofs (by simp; done) (by omega) | exact vsplice (by simp) (by simp) | refine ceq ?_ ?_ | refine Eq.trans (vsplice (by first | (simp; done) | (simp; omega)) (by first | (simp; done) | (simp; omega))) ?_)) (by repeat (first | rfl | exact vfull (by first | (simp [splice]; done) | (simp [splice]; omega)) | exact rfull (by first | (simp [splice]; done) | (simp [splice]; omega)) | exact vdrs (by simp; done) (by omega) | exact vroofs (by simp; done) (by omega) | exact vsplice (by simp) (by simp) | refine ceq ?_ ?_ | refine Eq.trans (vsplice (by first | (simp; done) | (simp; omega)) (by first | (simp; done) | (simp; omega))) ?_))), rfl, rfl, ?_⟩
  conv => whnf
  repeat (first | (refine And.intro (by first | exact Nat.le_of_ble_eq_true rfl | exact rfl | decide | omega | (simp [splice]; done) | (constructor <;> omega) | (simp [splice]; omega)) ?_; conv => whnf) )
  first | refine ⟨rfl, _, rfl, ?_⟩ | refine ⟨_, rfl, ?_⟩
  skip
  unfold intsD
  rw [goL_len]
  rfl
theorem l03Groups_sat (rs : List Roof) (hl : rs.length ≤ 6) (hR : AllR rs) (hb : ∀ i, i < rs.length → Rb (rx rs i)) (w : Nat → Int) (hw' : 0 < rs.length → W1 w) (m : Bool) :
    Sat Try.prog 90 [roofsD m rs, .ref false (raiD w) 0] (.tup [intsD true (goL (Fr rs w) rs.length), .v (.int .i64 (snL (Fr rs w) rs.length).length)]) := by
  refine sat_of_wp hMix tOk Try.func90 rfl rfl Try.ntmps90 rfl rfl Try.results90 (by kernel_rfl) ?_
  conv => whnf
  repeat (first | (refine And.intro (by first | exact Nat.le_of_ble_eq_true rfl | exact rfl | decide | omega | (simp [splice]; done) | (constructor <;> omega) | (simp [splice]; omega)) ?_; conv => whnf) )
  refine loop_rule (α := Nat) (fun i => [(0, roofsD m rs), (1, .ref false (raiD w) 0), (6, .slc true 1 (55, 0, 0) 0 i), (7, .slc true 136 (51, 0, 0) 0 (snL (Fr rs w) i).length), (8, .v (.int .i64 i))]) (fun i => [((51, 0, 0), .v (.agg ⟨drsC (snL (Fr rs w) i)⟩)), ((55, 0, 0), .v (.agg ⟨intsC (goL (Fr rs w) i)⟩))]) (fun i => i ≤ rs.length) (fun i => rs.length - i) (0) ?_ (sim_of (rn := [((51, 0, 0), (14, 0, 0)), ((55, 0, 0), (13, 0, 0))]) rfl ?_ ?_) ?_
  · first | omega | (dsimp only; omega) | ((repeat' apply And.intro) <;> omega) | (dsimp only; (repeat' apply And.intro) <;> omega) | trivial
  · ((repeat' (first | exact trivial | apply And.intro)) <;> (first | rfl | exact succ8 (by omega) | exact succ64 (by omega) | exact CapOk.fn (by assumption) _ _ | exact vintS (by omega) | exact vintS (by rw [w64 (by omega) (by omega)]; omega) | exact vintS (by rw [w8 (by omega) (by omega)]; omega) | exact vslcS (by omega) | exact vslcS (by simp)))
  · ((repeat' (first | exact trivial | apply And.intro)) <;> ((first | refine ⟨_, _, rfl, rfl, ?_⟩ ); first | rfl | (first | exact cset drsC_nil.symm | exact cset (show [] = intsC [] from intsC_nil.symm))))
  intro i hi
  have hsl := snL_len (Fr rs w) i
  have hgl := goL_len (Fr rs w) i
  conv => whnf
  repeat (first | (refine And.intro (by first | exact Nat.le_of_ble_eq_true rfl | exact rfl | decide | omega | (simp [splice]; done) | (constructor <;> omega) | (simp [splice]; omega)) ?_; conv => whnf) )
  cases h : decide ((i : Int) < (rs.length : Int))
  · have hin : i = rs.length := by simp at h; omega
    subst hin
    conv => whnf
    repeat (first | (refine And.intro (by first | exact Nat.le_of_ble_eq_true rfl | exact rfl | decide | omega | (simp [splice]; done) | (constructor <;> omega) | (simp [splice]; omega)) ?_; conv => whnf) )
    first | refine ⟨rfl, _, rfl, ?_⟩ | refine ⟨_, rfl, ?_⟩
    skip
    unfold intsD
    rw [goL_len]; rfl
  have hin' : i < rs.length := by simpa using h
  have hw := hw' (by omega)
  have hin : ∀ n, AllT (snL (Fr rs w) n) := snL_in fun i => dR_inM (rx rs i) hw
  have hm : (i + 1) * 67 ≤ rs.length * 67 := Nat.mul_le_mul_right _ hin'
  have hF : InM (Fr rs w i) := dR_inM (rx rs i) hw
  conv => whnf
  repeat (first | (refine And.intro (by first | exact Nat.le_of_ble_eq_true rfl | exact rfl | decide | omega | (simp [splice]; done) | (constructor <;> omega) | (simp [splice]; omega)) ?_; conv => whnf) )
  first | refine ⟨_, _, rfl, Sat.of_eq (Sat.sub (xs := roofsC rs) (off := (i : Int).toNat * 67) (n := 67) (l02Run_sat (rx rs i) (hR i hin') (hb i hin') w hw) (roofs_sub (i := i) (by simp) hin') (roofC_len _) (by omega)) (by repeat (first | rfl | exact vfull (by first | (simp [splice]; done) | (simp [splice]; omega)) | exact rfull (by first | (simp [splice]; done) | (simp [splice]; omega)) | exact vdrs (by simp; done) (by omega) | exact vroofs (by simp; done) (by omega) | exact vsplice (by simp) (by simp) | refine ceq ?_ ?_ | refine Eq.trans (vsplice (by first | (simp; done) | (simp; omega)) (by first | (simp; done) | (simp; omega))) ?_)), ?_⟩ | refine .inl ⟨_, _, rfl, Sat.of_eq (Sat.sub (xs := roofsC rs) (off := (i : Int).toNat * 67) (n := 67) (l02Run_sat (rx rs i) (hR i hin') (hb i hin') w hw) (roofs_sub (i := i) (by simp) hin') (roofC_len _) (by omega)) (by repeat (first | rfl | exact vfull (by first | (simp [splice]; done) | (simp [splice]; omega)) | exact rfull (by first | (simp [splice]; done) | (simp [splice]; omega)) | exact vdrs (by simp; done) (by omega) | exact vroofs (by simp; done) (by omega) | exact vsplice (by simp) (by simp) | refine ceq ?_ ?_ | refine Eq.trans (vsplice (by first | (simp; done) | (simp; omega)) (by first | (simp; done) | (simp; omega))) ?_)), ?_⟩
  conv => whnf
  repeat (first | (refine And.intro (by first | exact Nat.le_of_ble_eq_true rfl | exact rfl | decide | omega | (simp [splice]; done) | (constructor <;> omega) | (simp [splice]; omega)) ?_; conv => whnf) )
  have eC : ∀ (xs : List Value), xs.length = 136 → splice xs 0 (dripC (Fr rs w i)) = dripC (Fr rs w i) := fun xs hx => splice_all (by simpa using hx)
  generalize hds : snL (Fr rs w) i = ds at *
  have hAT := hin i
  rw [hds] at hAT
  refine loop_rule (α := Nat) (fun j => [(0, roofsD m rs), (1, .ref false (raiD w) 0), (6, .slc true 1 (55, 0, 0) 0 i), (7, .slc true 136 (51, 0, 0) 0 ds.length), (8, .v (.int .i64 i)), (9, .ptr (9, 0, 0) 0), (12, .v (.int .i64 j))]) (fun j => [((9, 0, 0), dripD (Fr rs w i)), ((51, 0, 0), .v (.agg ⟨drsC ds⟩)), ((55, 0, 0), .v (.agg ⟨intsC (goL (Fr rs w) i)⟩))]) (fun j => j ≤ ds.length ∧ ∀ k, k < j → eqD (Fr rs w i) (dx ds k) = false) (fun j => ds.length - j) (0) ?_ (sim_of (rn := [((9, 0, 0), (9, 1, 0)), ((51, 0, 0), (51, 0, 0)), ((55, 0, 0), (55, 0, 0))]) rfl ?_ ?_) ?_
  · exact ⟨Nat.zero_le _, fun k hk => by omega⟩
  · ((repeat' (first | exact trivial | apply And.intro)) <;> (first | rfl | exact succ8 (by omega) | exact succ64 (by omega) | exact CapOk.fn (by assumption) _ _ | exact vintS (by omega) | exact vintS (by rw [w64 (by omega) (by omega)]; omega) | exact vintS (by rw [w8 (by omega) (by omega)]; omega) | exact vslcS (by omega) | exact vslcS (by simp)))
  · ((repeat' (first | exact trivial | apply And.intro)) <;> ((first | refine ⟨_, _, rfl, rfl, ?_⟩ ); first | rfl | (exact csplice (by simp))))
  rintro j ⟨hj, hall⟩
  conv => whnf
  repeat (first | (refine And.intro (by first | exact Nat.le_of_ble_eq_true rfl | exact rfl | decide | omega | (simp [splice]; done) | (constructor <;> omega) | (simp [splice]; omega)) ?_; conv => whnf) )
  cases h2 : decide ((j : Int) < (ds.length : Int))
  · have hjn : j = ds.length := by simp at h2; omega
    subst hjn
    have hg : gIx ds (Fr rs w i) = -1 := idxX_none hall
    have hgn : gNo ds (Fr rs w i) = ds.length := by unfold gNo; rw [if_pos (by omega)]
    have e3 : snL (Fr rs w) (i + 1) = ds ++ [Fr rs w i] := by rw [snL_yes (by rw [hds, hg]; omega), hds]
    have eg : intsC (goL (Fr rs w) i) ++ [.int .i64 (ds.length : Nat)] = intsC (goL (Fr rs w) (i + 1)) := by rw [goL_next, hds, hgn, intsC_append, intsC_one]
    conv => whnf
    repeat (first | (refine And.intro (by first | exact Nat.le_of_ble_eq_true rfl | exact rfl | decide | omega | (simp [splice]; done) | (constructor <;> omega) | (simp [splice]; omega)) ?_; conv => whnf) )
    rw [show ((ds.length : Int) == (ds.length : Int)) = true by simp]
    conv => whnf
    repeat (first | (refine And.intro (by first | exact Nat.le_of_ble_eq_true rfl | exact rfl | decide | omega | (simp [splice]; done) | (constructor <;> omega) | (simp [splice]; omega)) ?_; conv => whnf) )
    rw [fill1 (a := dripC (Fr rs w i)) (s := _) ?hx (by simp) (by simp)]
    case hx => exact vfull (by simp)
    dsimp only
    rw [mkAgg_map]
    conv => whnf
    repeat (first | (refine And.intro (by first | exact Nat.le_of_ble_eq_true rfl | exact rfl | decide | omega | (simp [splice]; done) | (constructor <;> omega) | (simp [splice]; omega)) ?_; conv => whnf) )
    have e2 : drsC ds ++ ((dripC (Fr rs w i)).drop 0).take (1 * 136) = drsC (ds ++ [Fr rs w i]) := by rw [take_drop0 (by simp), drsC_snoc]
    refine ⟨i + 1, ?_, ?_, sim_of (rn := [((51, 0, 0), (51, 1, 0)), ((55, 0, 0), (55, 1, 0))]) rfl ?_ ?_⟩
    · (dsimp only; omega)
    · first | omega | (dsimp only; omega) | ((repeat' apply And.intro) <;> omega) | (dsimp only; (repeat' apply And.intro) <;> omega) | trivial
    · ((repeat' (first | exact trivial | apply And.intro)) <;> (first | rfl | ((rw [e3, List.length_append]; rfl)) | exact succ8 (by omega) | exact succ64 (by omega) | exact CapOk.fn (by assumption) _ _ | exact vintS (by omega) | exact vintS (by rw [w64 (by omega) (by omega)]; omega) | exact vintS (by rw [w8 (by omega) (by omega)]; omega) | exact vslcS (by omega) | exact vslcS (by simp)))
    · ((repeat' (first | exact trivial | apply And.intro)) <;> ((first | refine ⟨_, _, rfl, rfl, ?_⟩ ); first | rfl | (first | exact cset eg | (rw [e3]; exact cset e2))))
  have hjn : j < ds.length := by simpa using h2
  have hm2 : (j + 1) * 136 ≤ ds.length * 136 := Nat.mul_le_mul_right _ hjn
  conv => whnf
  repeat (first | (refine And.intro (by first | exact Nat.le_of_ble_eq_true rfl | exact rfl | decide | omega | (simp [splice]; done) | (constructor <;> omega) | (simp [splice]; omega)) ?_; conv => whnf) )
  refine ⟨_, eqAgg_drip (drs_sub (by simp) hjn) (take_drop0 (by simp)) (hAT j hjn) hF, ?_⟩
  rw [eqD_comm]
  cases h5 : eqD (Fr rs w i) (dx ds j)
  · have hall' := below_succ (p := fun k => eqD (Fr rs w i) (dx ds k) = false) hall h5
    conv => whnf
    repeat (first | (refine And.intro (by first | exact Nat.le_of_ble_eq_true rfl | exact rfl | decide | omega | (simp [splice]; done) | (constructor <;> omega) | (simp [splice]; omega)) ?_; conv => whnf) )
    refine ⟨j + 1, ?_, ?_, sim_of (rn := [((9, 0, 0), (9, 0, 0)), ((51, 0, 0), (51, 0, 0)), ((55, 0, 0), (55, 0, 0))]) rfl ?_ ?_⟩
    · (dsimp only; omega)
    · exact ⟨by omega, hall'⟩
    · ((repeat' (first | exact trivial | apply And.intro)) <;> (first | rfl | exact succ8 (by omega) | exact succ64 (by omega) | exact CapOk.fn (by assumption) _ _ | exact vintS (by omega) | exact vintS (by rw [w64 (by omega) (by omega)]; omega) | exact vintS (by rw [w8 (by omega) (by omega)]; omega) | exact vslcS (by omega) | exact vslcS (by simp)))
    · ((repeat' (first | exact trivial | apply And.intro)) <;> ((first | refine ⟨_, _, rfl, rfl, ?_⟩ ); rfl))
  have hg : gIx ds (Fr rs w i) = j := idxX_some hjn h5 hall
  have hgn : gNo ds (Fr rs w i) = j := by unfold gNo; rw [if_neg (by omega)]; omega
  have e3 : snL (Fr rs w) (i + 1) = ds := by rw [snL_no (by rw [hds, hg]; omega), hds]
  have eg : intsC (goL (Fr rs w) i) ++ [.int .i64 (j : Nat)] = intsC (goL (Fr rs w) (i + 1)) := by rw [goL_next, hds, hgn, intsC_append, intsC_one]
  conv => whnf
  repeat (first | (refine And.intro (by first | exact Nat.le_of_ble_eq_true rfl | exact rfl | decide | omega | (simp [splice]; done) | (constructor <;> omega) | (simp [splice]; omega)) ?_; conv => whnf) )
  rw [show ((j : Int) == (ds.length : Int)) = false by simp; omega]
  conv => whnf
  repeat (first | (refine And.intro (by first | exact Nat.le_of_ble_eq_true rfl | exact rfl | decide | omega | (simp [splice]; done) | (constructor <;> omega) | (simp [splice]; omega)) ?_; conv => whnf) )
  refine ⟨i + 1, ?_, ?_, sim_of (rn := [((51, 0, 0), (51, 0, 0)), ((55, 0, 0), (55, 1, 0))]) rfl ?_ ?_⟩
  · (dsimp only; omega)
  · first | omega | (dsimp only; omega) | ((repeat' apply And.intro) <;> omega) | (dsimp only; (repeat' apply And.intro) <;> omega) | trivial
  · ((repeat' (first | exact trivial | apply And.intro)) <;> (first | rfl | ((rw [e3]; rfl)) | exact succ8 (by omega) | exact succ64 (by omega) | exact CapOk.fn (by assumption) _ _ | exact vintS (by omega) | exact vintS (by rw [w64 (by omega) (by omega)]; omega) | exact vintS (by rw [w8 (by omega) (by omega)]; omega) | exact vslcS (by omega) | exact vslcS (by simp)))
  · ((repeat' (first | exact trivial | apply And.intro)) <;> ((first | refine ⟨_, _, rfl, rfl, ?_⟩ ); first | rfl | (first | exact cset eg | (rw [e3]; rfl))))
end Go.Proofs.Ytndlknhakdadjaa
